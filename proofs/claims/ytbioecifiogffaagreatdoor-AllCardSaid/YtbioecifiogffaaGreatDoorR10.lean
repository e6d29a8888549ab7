/- Texts of this proof, joined: Pl1, Pl2, Pl3, Pl4, Wrt3, Wrt4. Conditions: as each theorem names them. -/
import Derived.Test.YtbioecifiogffaaGreatDoorR9
import Derived.Test.YtbioecifiogffaaGreatDoorR4
import Derived.Test.YtbioecifiogffaaGreatDoorR8
import Derived.Test.YtbioecifiogffaaGreatDoorR3
import Derived.Test.YtbioecifiogffaaGreatDoorR2
import Derived.Test.YtbioecifiogffaaGreatDoorR1
import Derived.Laws.ResultCell
import Derived.Laws.Rows
import Derived.OrdersHeld
import Derived.Shelf.RegionOpen
set_option linter.unusedVariables false
set_option linter.unusedSimpArgs false
set_option maxHeartbeats 8000000
set_option maxRecDepth 1000000
namespace Go.Proofs.YtbioecifiogffaaGreatDoor
open Go.RowKit
structure Pl (aL aI aS : Addr) (w0 w : World) (Q : Nat) (c : ComeL) (pulled : Bool) (R : List Ev) (o : Nat → Prop) : Prop where
 is : ∃ P mb b o', w.heap[Q]? = some (.cells #[.pointer (some ⟨P, 0, none⟩), .pointer (some ⟨b, 0, none⟩)] 93 (0, 0)) ∧ Par aL aI aS w0 w P mb b c pulled R o' ∧ ¬ o' Q ∧ w0.heap.size ≤ Q ∧ ∀ j, o j ↔ (o' j ∨ j = Q)
theorem Pl.keep {aL aI aS : Addr} {w0 w w' : World} {Q : Nat} {c : ComeL} {pulled : Bool} {R : List Ev} {o D : Nat → Prop} (h : Pl aL aI aS w0 w Q c pulled R o) (hk : Keeps D w w') (hD : ∀ j, D j → ¬ o j) (hD0 : ∀ j, D j → w0.heap.size ≤ j) : Pl aL aI aS w0 w' Q c pulled R o := by
 obtain ⟨P, mb, b, o', h1, h2, h3, h4, h5⟩ := h.is
 exact ⟨P, mb, b, o', hk.heap_some h1 (fun h => hD _ h ((h5 _).2 (.inr rfl))), h2.keep hk (fun j h6 h7 => hD j h6 ((h5 j).2 (.inl h7))) hD0, h3, h4, h5⟩
theorem Pl.fresh {aL aI aS : Addr} {w0 w w' : World} {Q : Nat} {c : ComeL} {pulled : Bool} {R : List Ev} {o : Nat → Prop} (h : Pl aL aI aS w0 w Q c pulled R o) (hk : Fresh w w') : Pl aL aI aS w0 w' Q c pulled R o := h.keep hk (fun _ h => h.elim) (fun _ h => h.elim)
theorem Pl.own {aL aI aS : Addr} {w0 w : World} {Q : Nat} {c : ComeL} {pulled : Bool} {R : List Ev} {o : Nat → Prop} (h : Pl aL aI aS w0 w Q c pulled R o) : ∀ j, o j → w0.heap.size ≤ j ∧ j < w.heap.size := by
 obtain ⟨P, mb, b, o', h1, h2, h3, h4, h5⟩ := h.is
 intro j hj
 rcases (h5 j).1 hj with h6 | h6
 ·exact h2.own j h6
 ·rw [h6]; exact ⟨h4, (Array.getElem?_eq_some_iff.1 h1).1⟩
theorem Pl.start {aL aI aS : Addr} {w0 w : World} {Q : Nat} {c : ComeL} {pulled : Bool} {R : List Ev} {o : Nat → Prop} (h : Pl aL aI aS w0 w Q c pulled R o) : Fresh w0 w := by
 obtain ⟨P, mb, b, o', h1, h2, h3, h4, h5⟩ := h.is
 exact h2.start
theorem Pl.turn' {aL aI aS : Addr} {w0 w w' : World} {Q P mb b : Nat} {c : ComeL} {R : List Ev} {o o' o1 : Nat → Prop} (h1 : w.heap[Q]? = some (.cells #[.pointer (some ⟨P, 0, none⟩), .pointer (some ⟨b, 0, none⟩)] 93 (0, 0))) (hq : ¬ o' Q) (h4 : w0.heap.size ≤ Q) (h5 : ∀ j, o j ↔ (o' j ∨ j = Q))
 (hp : Par aL aI aS w0 w' P mb b c true R o1) (hm : Mv o' o1 w w') : ∃ o2, Pl aL aI aS w0 w' Q c true R o2 ∧ Mv o o2 w w' ∧ ∀ j, o2 j → o1 j ∨ j = Q := by
 have hl := (Array.getElem?_eq_some_iff.1 h1).1
 refine ⟨fun j => o1 j ∨ j = Q, ⟨P, mb, b, o1, hm.heap h1 hq, hp, fun h => ?_, h4, fun j => Iff.rfl⟩, ⟨hm.1.mono (fun j _ h => (h5 j).2 (.inl h)), fun j hj => ?_⟩, fun _ h => h⟩
 ·rcases hm.2 _ h with h | h
  ·exact hq h
  ·omega
 ·rcases hj with hj | hj
  ·rcases hm.2 j hj with h | h
   ·exact .inl ((h5 j).2 (.inl h))
   ·exact .inr h
  ·exact .inl ((h5 j).2 (.inr hj))
theorem Pl.turn {aL aI aS : Addr} {w0 w w' : World} {Q P mb b : Nat} {c : ComeL} {R : List Ev} {o o' o1 : Nat → Prop} (h1 : w.heap[Q]? = some (.cells #[.pointer (some ⟨P, 0, none⟩), .pointer (some ⟨b, 0, none⟩)] 93 (0, 0))) (hq : ¬ o' Q) (h4 : w0.heap.size ≤ Q) (h5 : ∀ j, o j ↔ (o' j ∨ j = Q))
 (hp : Par aL aI aS w0 w' P mb b c true R o1) (hm : Mv o' o1 w w') : ∃ o2, Pl aL aI aS w0 w' Q c true R o2 ∧ Mv o o2 w w' := by
 obtain ⟨o2, h6, h7, -⟩ := Pl.turn' h1 hq h4 h5 hp hm
 exact ⟨o2, h6, h7⟩
def comeN (nn : Bool) (s : List UInt8) (cs : List Int) (fa : Int) (wt : Bool) : ComeL := if nn then ⟨[], 0, 0, 0⟩ else comeL s cs fa wt
theorem comeN_ok (nn : Bool) (s : List UInt8) (cs : List Int) (fa : Int) (wt : Bool) : ((comeN nn s cs fa wt).err = 0 ∨ (comeN nn s cs fa wt).err = 1 ∨ (comeN nn s cs fa wt).err = 2 ∨ (comeN nn s cs fa wt).err = 4) ∧ (comeN nn s cs fa wt).text.length ≤ 1200 := by
 cases nn with
 | true => exact ⟨.inl rfl, by simp [comeN]⟩
 | false => exact ⟨comeL_err _ _ _ _, comeL_text _ _ _ _⟩
theorem plNew_end (aL aI aS : Addr) {w0 w W3 w4 X : World} {Q b : Nat} {fv : Value} {c : ComeL} (hF : Fresh w0 w) (h3 : Fresh w W3) (hq3 : W3.heap[Q]? = some (.cells #[.pointer none, .pointer (some ⟨b, 0, none⟩)] 93 (0, 0)))
 (hQ : w.heap.size ≤ Q) (hb : w.heap.size ≤ b) (hbQ : b ≠ Q) (hbl : b < W3.heap.size) (hP4 : w4.heap[W3.heap.size + 1]? = some (.cells #[fv, .bool false, .nilIface, .slice none 0 0, .string ⟨#[]⟩, .map (some W3.heap.size), .slice none 0 0] 144 (0, 0)))
 (hm4 : w4.heap[W3.heap.size]? = some (.map #[] 0)) (hk4 : Fresh W3 w4) (hz4 : w4.heap.size = W3.heap.size + 2) (hX : w4.setCell ⟨Q, 0, none⟩ (.pointer (some ⟨W3.heap.size + 1, 0, none⟩)) = X)
 (hc : (c.err = 0 ∨ c.err = 1 ∨ c.err = 2 ∨ c.err = 4) ∧ c.text.length ≤ 1200) (h0 : W3.cell? ⟨b, 4, none⟩ = some (.int .i64 0)) (G : Nat → Prop) (hG : ∀ j, G j → w.heap.size ≤ j ∧ j < W3.heap.size ∧ j ≠ Q)
 (hs : ∀ o : Nat → Prop, (∀ j, G j → o j) → SrcS W3 (W3.heap.size + 1) b fv c o) :
 ∃ o, Pl aL aI aS w0 X Q c false (comeE c) o ∧ (∀ j, o j → w.heap.size ≤ j) ∧ Fresh w X := by
 have hQl := (Array.getElem?_eq_some_iff.1 hq3).1
 have hkX : Keeps (fun j => j = Q) w4 X := by rw [← hX]; exact (Keeps.refl (fun j => j = Q) w4).setCell (p := ⟨Q, 0, none⟩) (fun _ => rfl) _
 have hqX : X.heap[Q]? = some (.cells #[.pointer (some ⟨W3.heap.size + 1, 0, none⟩), .pointer (some ⟨b, 0, none⟩)] 93 (0, 0)) := by rw [← hX, heap_set (hk4.heap_some hq3 (fun h => h))]; rfl
 have hzX : X.heap.size = w4.heap.size := by rw [← hX]; simp
 have hwX : Fresh w X := (h3.tr hk4).trans hkX (fun j h1 h2 => by omega)
 have hs3 := h3.size
 have hs0 := hF.size
 have hkk : Keeps (fun j => j = Q) W3 X := (hk4.mono (fun _ _ h => h.elim)).tr hkX
 refine ⟨fun j => (j = W3.heap.size + 1 ∨ j = W3.heap.size ∨ j = b ∨ G j) ∨ j = Q, ⟨W3.heap.size + 1, W3.heap.size, b, fun j => j = W3.heap.size + 1 ∨ j = W3.heap.size ∨ j = b ∨ G j, hqX, ⟨hF.tr hwX, fun j hj => ?_, .inl rfl, .inr (.inl rfl), .inr (.inr (.inl rfl)), by omega, by omega, hc, .inl ⟨rfl, ⟨fv, hkX.heap_some hP4 (by omega), ?_⟩, hkX.heap_some hm4 (by omega), hkk.cell_some h0 hbQ, rfl⟩⟩, fun h => ?_, by omega, fun j => Iff.rfl⟩, fun j hj => ?_, hwX⟩
 ·rcases hj with h | h | h | h
  ·omega
  ·omega
  ·omega
  ·have := hG j h; omega
 ·refine (hs (fun j => G j) (fun _ h => h)).kept hkk hbQ (fun j h1 h2 => (hG j h2).2.2 h1) |>.elim (fun h => .inl h) (fun h => ?_)
  obtain ⟨g, s, cs, fa, wt, h1, h2, h3, h4, h5, h6, h7, h8, h9⟩ := h
  exact .inr ⟨g, s, cs, fa, wt, h1, h2, h3, h4, h5, h6, h7, .inr (.inr (.inr h8)), h9⟩
 ·rcases h with h | h | h | h
  ·omega
  ·omega
  ·exact hbQ h.symm
  ·exact (hG _ h).2.2 rfl
 ·rcases hj with (h | h | h | h) | h
  ·omega
  ·omega
  ·omega
  ·exact (hG j h).1
  ·omega
theorem plNew_any (aL aI aS : Addr) (w0 w : World) (hF : Fresh w0 w) (s : ByteArray) (v : Value) (cs : List Int) (fa : Int) (wt nn : Bool) (hv : IntsAt w v cs) (hs : s.size ≤ 1048576) (hl : cs.length ≤ 1048576) (hw : ∀ x ∈ cs, -9223372036854775808 ≤ x ∧ x ≤ 9223372036854775807) :
 Calls Tryz.prog 19 #[.agg #[.string s, v, .int .i64 fa, .bool wt], .bool nn] w fun e w' => ∃ Q o, e = .returned (.pointer (some ⟨Q, 0, none⟩)) ∧ Pl aL aI aS w0 w' Q (comeN nn s.data.toList cs fa wt) false (comeE (comeN nn s.data.toList cs fa wt)) o ∧ (∀ j, o j → w.heap.size ≤ j) ∧ Fresh w w' := by
 obtain ⟨W, hW⟩ : ∃ W, w.alloc (.cells #[.string s, v, .int .i64 fa, .bool wt] 30) = W := ⟨_, rfl⟩
 have hFW : Fresh w W := by rw [← hW]; exact (Keeps.refl _ w).alloc _
 have hzW : W.heap.size = w.heap.size + 1 := by rw [← hW]; simp
 have hbW : W.heap[w.heap.size]? = some (.cells #[.string s, v, .int .i64 fa, .bool wt] 30 (0, 0)) := by rw [← hW]; exact heap_alloc_new w _
 have c0 : W.cell? ⟨w.heap.size, 0, none⟩ = some (.string s) := by rw [Lib.cell_of_heap hbW]; rfl
 have c1 : W.cell? ⟨w.heap.size, 1, none⟩ = some v := by rw [Lib.cell_of_heap hbW]; rfl
 have c2 : W.cell? ⟨w.heap.size, 2, none⟩ = some (.int .i64 fa) := by rw [Lib.cell_of_heap hbW]; rfl
 have c3 : W.cell? ⟨w.heap.size, 3, none⟩ = some (.bool wt) := by rw [Lib.cell_of_heap hbW]; rfl
 have hsrc := source_any s v cs fa wt W (hv.kept hFW (fun _ _ h => h)) hl
 obtain ⟨ao, cap, rfl⟩ := hv.form
 have HSRC := Lib.hid hsrc
 have HFW := Lib.hid hFW
 have HF := Lib.hid hF
 have HW := Lib.hid hw
 have hpn := pNew_any
 have HPN := Lib.hid hpn
 clear hsrc hFW hF hw hbW hv hpn
 go_enter Tryz.func19, Tryz.ntmps19
 go_wp2_with fail
 clear hW
 refine HSRC.out.mono ?_
 rintro e w2 ⟨b, g, rfl, hS2, hk2, hb2, hg2, hgl2⟩
 have hbl2 := hS2.lt
 have hs2 := hk2.size
 obtain ⟨W3, hW3⟩ : ∃ W3, w2.alloc (.cells #[.pointer none, .pointer (some ⟨b, 0, none⟩)] 93) = W3 := ⟨_, rfl⟩
 have hF3 : Fresh w2 W3 := by rw [← hW3]; exact (Keeps.refl _ w2).alloc _
 have hz3 : W3.heap.size = w2.heap.size + 1 := by rw [← hW3]; simp
 have hq3 : W3.heap[w2.heap.size]? = some (.cells #[.pointer none, .pointer (some ⟨b, 0, none⟩)] 93 (0, 0)) := by rw [← hW3]; exact heap_alloc_new w2 _
 have q0 : W3.cell? ⟨w2.heap.size, 0, none⟩ = some (.pointer none) := by rw [Lib.cell_of_heap hq3]; rfl
 have q1 : W3.cell? ⟨w2.heap.size, 1, none⟩ = some (.pointer (some ⟨b, 0, none⟩)) := by rw [Lib.cell_of_heap hq3]; rfl
 have HS2 := Lib.hid hS2
 have HK2 := Lib.hid hk2
 have HF3 := Lib.hid hF3
 have HQ3 := Lib.hid hq3
 clear hS2 hk2 hF3 hq3
 cases nn with
 | true =>
  have hpn := HPN.out .nilIface W3 (.inl rfl)
  clear c0 c1 c2 c3
  go_wp2_with fail
  refine hpn.mono ?_
  clear hpn
  rintro e w4 ⟨rfl, hP4, hm4, hk4, hz4⟩
  have hq4 := hk4.heap_some HQ3.out (fun h => h)
  have q40 : w4.cell? ⟨w2.heap.size, 0, none⟩ = some (.pointer none) := by rw [Lib.cell_of_heap hq4]; rfl
  have f40 : w4.frozen? ⟨w2.heap.size, 0, none⟩ = false := Lib.frozen_of_heap hq4 0
  have h0 : W3.cell? ⟨b, 4, none⟩ = some (.int .i64 0) := by obtain ⟨_, _, _, ⟨_, _, _, _, h4, _⟩, _⟩ := (HS2.out.kept HF3.out (fun h => h) (fun h => h)).parts; exact h4
  have hend := plNew_end aL aI aS (X := w4.setCell ⟨w2.heap.size, 0, none⟩ (.pointer (some ⟨W3.heap.size + 1, 0, none⟩))) HF.out ((HFW.out.tr HK2.out).tr HF3.out) HQ3.out (by omega) (by omega) (by omega) (by omega) hP4 hm4 hk4 hz4 rfl (comeN_ok true s.data.toList cs fa wt) h0 (fun j => j = g) (fun j hj => by rw [hj]; omega) (fun o ho => .inl ⟨rfl, rfl, h0⟩)
  have HEND := Lib.hid hend
  clear hP4 hm4 hk4 hq4 hend h0 hz3 hz4
  go_wp2
  go_ret
  obtain ⟨o, h1, h2, h3⟩ := HEND.out
  exact ⟨_, o, rfl, h1, h2, h3⟩
 | false =>
  have hpn := HPN.out (.iface 68 (.pointer (some ⟨b, 0, none⟩))) W3 (.inr ⟨_, _, rfl⟩)
  go_wp2_with fail
  refine hpn.mono ?_
  clear hpn
  rintro e w4 ⟨rfl, hP4, hm4, hk4, hz4⟩
  have hq4 := hk4.heap_some HQ3.out (fun h => h)
  have q40 : w4.cell? ⟨w2.heap.size, 0, none⟩ = some (.pointer none) := by rw [Lib.cell_of_heap hq4]; rfl
  have f40 : w4.frozen? ⟨w2.heap.size, 0, none⟩ = false := Lib.frozen_of_heap hq4 0
  have h0 : W3.cell? ⟨b, 4, none⟩ = some (.int .i64 0) := by obtain ⟨_, _, _, ⟨_, _, _, _, h4, _⟩, _⟩ := (HS2.out.kept HF3.out (fun h => h) (fun h => h)).parts; exact h4
  have hend := plNew_end aL aI aS (X := w4.setCell ⟨w2.heap.size, 0, none⟩ (.pointer (some ⟨W3.heap.size + 1, 0, none⟩))) HF.out ((HFW.out.tr HK2.out).tr HF3.out) HQ3.out (by omega) (by omega) (by omega) (by omega) hP4 hm4 hk4 hz4 rfl (comeN_ok false s.data.toList cs fa wt) h0 (fun j => j = g) (fun j hj => by rw [hj]; omega) (fun o ho => .inr ⟨g, s, cs, fa, wt, rfl, HS2.out.kept HF3.out (fun h => h) (fun h => h), by omega, hs, hl, HW.out, rfl, ho g rfl, by omega⟩)
  have HEND := Lib.hid hend
  clear hP4 hm4 hk4 hq4 hend h0 hz3 hz4
  go_wp2
  go_ret
  obtain ⟨o, h1, h2, h3⟩ := HEND.out
  exact ⟨_, o, rfl, h1, h2, h3⟩
end Go.Proofs.YtbioecifiogffaaGreatDoor
namespace Go.Proofs.YtbioecifiogffaaGreatDoor
open Go.RowKit
theorem infoPE4 : (Tryz.prog.info? 38).map (·.size) = some 4 := by kernel_rfl
theorem res_pev {fn : Func} {p u : Nat} (h : fn.results = #[.cell p 38, .tmp u]) {tmps : Array Value} {wf : World} {B : Nat} {e : Ev} {b : Bool} (hp : tmps.getD p undef = .pointer (some ⟨B, 0, none⟩)) (hu : tmps.getD u undef = .bool b)
 (hg : wf.heap[B]? = some (.cells #[.int .i64 e.kind, .bool e.fin, .int .i64 e.level, .string ⟨e.text.toArray⟩] 38 (0, 0))) : (results fn tmps).run Tryz.prog wf = .ok (.tuple #[evV e, .bool b]) wf := by
 rw [results_cell_tmp h, hp, hu]
 simp only [asAddr, Sem.run_pure, Result.andThen_ok, run_loadVar_row wf B _ _ _ _ _ hg Tryz.underlying38 rfl infoPE4]
 rfl
theorem pl_reads {aL aI aS : Addr} {w0 w : World} {Q : Nat} {c : ComeL} {R : List Ev} {o : Nat → Prop} (h : Pl aL aI aS w0 w Q c false R o) :
 Calls Tryz.prog 23 #[.pointer (some ⟨Q, 0, none⟩)] w fun e w' => e = .returned (.int .i64 0) ∧ w' = w := by
 obtain ⟨P, mb, b, o', h1, h2, h3, h4, h5⟩ := h.is
 rcases h2.is with ⟨-, -, -, h6, -⟩ | ⟨h6, -⟩
 ·have c1 : w.cell? ⟨Q, 1, none⟩ = some (.pointer (some ⟨b, 0, none⟩)) := by rw [Lib.cell_of_heap h1]; rfl
  clear h1 h2 h3 h4 h5 h
  go_enter Tryz.func23, Tryz.ntmps23
  go_wp2
  go_ret
  exact ⟨rfl, rfl⟩
 ·cases h6
theorem pl_next {aL aI aS : Addr} {w0 w : World} {Q : Nat} {c : ComeL} {pulled : Bool} {R : List Ev} {o : Nat → Prop} (h : Pl aL aI aS w0 w Q c pulled R o) (hV : LaidVars aL aI aS w0) (hG : Gl w0) :
 Calls Tryz.prog 20 #[.pointer (some ⟨Q, 0, none⟩)] w fun e w' => e = .returned (.tuple #[evV (R.headD ev0), .bool (!R.isEmpty)]) ∧ ∃ o', Pl aL aI aS w0 w' Q c true R.tail o' ∧ Mv o o' w w' := by
 obtain ⟨P, mb, b, o', h1, h2, h3, h4, h5⟩ := h.is
 obtain ⟨W, hW⟩ : ∃ W, w.alloc (.cells #[.int .i64 0, .bool false, .int .i64 0, .string ⟨#[]⟩] 38) = W := ⟨_, rfl⟩
 have hFW : Fresh w W := by rw [← hW]; exact (Keeps.refl _ w).alloc _
 have hzW : W.heap.size = w.heap.size + 1 := by rw [← hW]; simp
 have hr := heap_alloc_new w (.cells #[.int .i64 0, .bool false, .int .i64 0, .string ⟨#[]⟩] 38)
 rw [hW] at hr
 have hqW := hFW.heap_some h1 (fun h => h)
 have c0 : W.cell? ⟨Q, 0, none⟩ = some (.pointer (some ⟨P, 0, none⟩)) := by rw [Lib.cell_of_heap hqW]; rfl
 have hnx := par_next (h2.fresh hFW) hV hG
 obtain ⟨y, hy⟩ : ∃ y, R.headD ev0 = y := ⟨_, rfl⟩
 obtain ⟨ne, hne⟩ : ∃ ne, (!R.isEmpty) = ne := ⟨_, rfl⟩
 rw [hy, hne] at hnx ⊢
 have hev := event_any y
 have hql := (Array.getElem?_eq_some_iff.1 h1).1
 have how := h2.own
 have HOW := Lib.hid how
 have hs0 := h2.start.size
 have HQ1 := Lib.hid h1
 have HNX := Lib.hid hnx
 have HR := Lib.hid hr
 have HEV := Lib.hid hev
 have HQW := Lib.hid hqW
 have HF := Lib.hid hFW
 clear hnx hr hev hqW hFW h1 h2 h hy hne hV hG how
 unfold evV at HNX
 go_enter Tryz.func20, Tryz.ntmps20
 go_wp2_with fail
 clear hW
 refine HNX.out.mono ?_
 rintro e w2 ⟨rfl, o1, hp2, hm2⟩
 have hqn : ¬ o' w.heap.size := fun h => by have := (HOW.out _ h).2; omega
 have hr2 := hm2.heap HR.out hqn
 have hq2 := hm2.heap HQW.out h3
 have hk2 : Keeps (fun j => o' j) w w2 := (HF.out.mono (fun _ _ h => h.elim)).tr hm2.1
 have HR2 := Lib.hid hr2
 have HP2 := Lib.hid hp2
 have HM2 := Lib.hid hm2
 have hsz2 := hm2.1.size
 clear hr2 hp2 hm2 hq2 hk2
 go_wp2_with fail
 refine (HEV.out _).mono ?_
 rintro e w3 ⟨rfl, hk3⟩
 have hfr : Fresh w2 w3 := ((Keeps.refl (fun _ => False) w2).alloc _).tr hk3
 have hr3 := hfr.heap_some HR2.out (fun h => h)
 have k0 : w3.cell? ⟨w.heap.size, 0, none⟩ = some (.int .i64 0) := by rw [Lib.cell_of_heap hr3]; rfl
 have k1 : w3.cell? ⟨w.heap.size, 1, none⟩ = some (.bool false) := by rw [Lib.cell_of_heap hr3]; rfl
 have k2 : w3.cell? ⟨w.heap.size, 2, none⟩ = some (.int .i64 0) := by rw [Lib.cell_of_heap hr3]; rfl
 have k3 : w3.cell? ⟨w.heap.size, 3, none⟩ = some (.string ⟨#[]⟩) := by rw [Lib.cell_of_heap hr3]; rfl
 have f0 : w3.frozen? ⟨w.heap.size, 0, none⟩ = false := Lib.frozen_of_heap hr3 0
 have f1 : w3.frozen? ⟨w.heap.size, 1, none⟩ = false := Lib.frozen_of_heap hr3 1
 have f2 : w3.frozen? ⟨w.heap.size, 2, none⟩ = false := Lib.frozen_of_heap hr3 2
 have f3 : w3.frozen? ⟨w.heap.size, 3, none⟩ = false := Lib.frozen_of_heap hr3 3
 have HR3 := Lib.hid hr3
 have HFR := Lib.hid hfr
 clear hr3 hfr hk3
 go_wp2
 obtain ⟨X, hX⟩ : ∃ X, (((w3.setCell ⟨w.heap.size, 0, none⟩ (.int .i64 y.kind)).setCell ⟨w.heap.size, 1, none⟩ (.bool y.fin)).setCell ⟨w.heap.size, 2, none⟩ (.int .i64 y.level)).setCell ⟨w.heap.size, 3, none⟩ (.string ⟨y.text.toArray⟩) = X := ⟨_, rfl⟩
 rw [hX]
 have hkX : Keeps (fun j => j = w.heap.size) w3 X := by
  rw [← hX]
  exact ((((Keeps.refl (fun j => j = w.heap.size) w3).setCell (p := ⟨w.heap.size, 0, none⟩) (fun _ => rfl) _).setCell (p := ⟨w.heap.size, 1, none⟩) (fun _ => rfl) _).setCell (p := ⟨w.heap.size, 2, none⟩) (fun _ => rfl) _).setCell (p := ⟨w.heap.size, 3, none⟩) (fun _ => rfl) _
 have hgX : X.heap[w.heap.size]? = some (.cells #[.int .i64 y.kind, .bool y.fin, .int .i64 y.level, .string ⟨y.text.toArray⟩] 38 (0, 0)) := by
  rw [← hX]
  simp [World.setCell, Array.getElem?_modify, HR3.out]
 refine bodyPost_ret (res_pev (e := y) (b := ne) (B := w.heap.size) rfl rfl rfl hgX) rfl ⟨rfl, ?_⟩
 have hkW : Keeps (fun j => j = w.heap.size) w2 X := (HFR.out.mono (fun _ _ h => h.elim)).tr hkX
 have ho1 : ∀ j, o1 j → ¬ j = w.heap.size := fun j h1 h2 => by
  subst h2
  rcases HM2.out.2 _ h1 with h | h
  ·exact hqn h
  ·omega
 have hstart := HP2.out.start.size
 have hpX := HP2.out.keep hkW (fun j h1 h2 => ho1 j h2 h1) (fun j h1 => by omega)
 have hmX : Mv o' o1 w X := ⟨((HF.out.mono (fun _ _ h => h.elim) : Keeps o' w W).tr HM2.out.1).trans hkW (fun j h1 h2 => by omega), fun j hj => by
   rcases HM2.out.2 j hj with h | h
   ·exact .inl h
   ·exact .inr (by omega)⟩
 exact Pl.turn HQ1.out h3 h4 h5 hpX hmX
theorem infoTold : (Tryz.prog.info? 25).map (·.size) = some 2 := by kernel_rfl
theorem res_told {fn : Func} {p u : Nat} (h : fn.results = #[.cell p 25, .tmp u]) {tmps : Array Value} {wf : World} {B : Nat} {x y v : Value} (hp : tmps.getD p undef = .pointer (some ⟨B, 0, none⟩)) (hu : tmps.getD u undef = v)
 (hg : wf.heap[B]? = some (.cells #[x, y] 25 (0, 0))) : (results fn tmps).run Tryz.prog wf = .ok (.tuple #[.agg #[x, y], v]) wf := by
 rw [results_cell_tmp h, hp, hu]
 simp only [asAddr, Sem.run_pure, Result.andThen_ok, run_loadVar_row wf B _ _ _ _ _ hg Tryz.underlying25 rfl infoTold]
theorem pl_err {aL aI aS : Addr} {w0 w : World} {Q : Nat} {c : ComeL} {pulled : Bool} {R : List Ev} {o : Nat → Prop} (h : Pl aL aI aS w0 w Q c pulled R o) (hV : LaidVars aL aI aS w0) (hG : Gl w0) :
 Calls Tryz.prog 21 #[.pointer (some ⟨Q, 0, none⟩)] w fun e w' => e = .returned (.tuple #[.agg #[.int .i64 c.err, .int .i64 c.n], .int .i64 c.reads]) ∧ ∃ o', Pl aL aI aS w0 w' Q c true R o' ∧ Mv o o' w w' := by
 obtain ⟨P, mb, b, o', h1, h2, h3, h4, h5⟩ := h.is
 obtain ⟨W, hW⟩ : ∃ W, w.alloc (.cells #[.int .i64 0, .int .i64 0] 25) = W := ⟨_, rfl⟩
 have hFW : Fresh w W := by rw [← hW]; exact (Keeps.refl _ w).alloc _
 have hzW : W.heap.size = w.heap.size + 1 := by rw [← hW]; simp
 have hr := heap_alloc_new w (.cells #[.int .i64 0, .int .i64 0] 25)
 rw [hW] at hr
 have hqW := hFW.heap_some h1 (fun h => h)
 have c0 : W.cell? ⟨Q, 0, none⟩ = some (.pointer (some ⟨P, 0, none⟩)) := by rw [Lib.cell_of_heap hqW]; rfl
 have her := par_err (h2.fresh hFW) hV hG
 have hql := (Array.getElem?_eq_some_iff.1 h1).1
 have how := h2.own
 have hok := h2.ok.1
 have hob := h2.ob
 have HOW := Lib.hid how
 have HER := Lib.hid her
 have HR := Lib.hid hr
 have HQW := Lib.hid hqW
 have HF := Lib.hid hFW
 have hs0 := h2.start.size
 have HQ1 := Lib.hid h1
 have HV := Lib.hid hV
 have HOK := Lib.hid hok
 clear her hr hqW hFW h1 h2 h hV hG how hok
 go_enter Tryz.func21, Tryz.ntmps21
 go_wp2_with fail
 clear hW
 refine HER.out.mono ?_
 rintro e w2 ⟨v, o1, rfl, hE2, hp2, hm2⟩
 have hqn : ¬ o' w.heap.size := fun h => by have := (HOW.out _ h).2; omega
 have hr2 := hm2.heap HR.out hqn
 have hq2 := hm2.heap HQW.out h3
 have hof := Of_come aL aI aS w2 v c.err c.n (HV.out.fresh hp2.start) hE2 HOK.out
 have hsz2 := hm2.1.size
 have hrd : w2.cell? ⟨b, 4, none⟩ = some (.int .i64 c.reads) := by
  rcases hp2.is with ⟨h, -⟩ | ⟨-, -, h⟩
  ·cases h
  ·exact h
 have HR2 := Lib.hid hr2
 have HP2 := Lib.hid hp2
 have HM2 := Lib.hid hm2
 have HQ2 := Lib.hid hq2
 have HOF := Lib.hid hof
 have HRD := Lib.hid hrd
 clear hr2 hp2 hm2 hq2 hof hE2 hrd
 go_wp2_with fail
 refine HOF.out.mono ?_
 rintro e w3 ⟨rfl, hk3⟩
 have HK3 := Lib.hid hk3
 clear hk3
 go_upto_region 2 with fail
 refine name_world fun W4 hW4 => ?_
 have hk4 : Fresh w2 W4 := by rw [hW4]; exact HK3.out.tr ((Keeps.refl (fun _ => False) w3).alloc _)
 have ht4 : W4.heap[w3.heap.size]? = some (.cells #[.int .i64 c.err, .int .i64 c.n] 25 (0, 0)) := by rw [hW4]; exact heap_alloc_new w3 _
 have hr4 := hk4.heap_some HR2.out (fun h => h)
 have hq4 := hk4.heap_some HQ2.out (fun h => h)
 have t0 : W4.cell? ⟨w3.heap.size, 0, none⟩ = some (.int .i64 c.err) := by rw [Lib.cell_of_heap ht4]; rfl
 have t1 : W4.cell? ⟨w3.heap.size, 1, none⟩ = some (.int .i64 c.n) := by rw [Lib.cell_of_heap ht4]; rfl
 have q1 : W4.cell? ⟨Q, 1, none⟩ = some (.pointer (some ⟨b, 0, none⟩)) := by rw [Lib.cell_of_heap hq4]; rfl
 have b4 : W4.cell? ⟨b, 4, none⟩ = some (.int .i64 c.reads) := hk4.cell_some HRD.out (fun h => h)
 have g0 : W4.cell? ⟨w.heap.size, 0, none⟩ = some (.int .i64 0) := by rw [Lib.cell_of_heap hr4]; rfl
 have g1 : W4.cell? ⟨w.heap.size, 1, none⟩ = some (.int .i64 0) := by rw [Lib.cell_of_heap hr4]; rfl
 have f0 : W4.frozen? ⟨w.heap.size, 0, none⟩ = false := Lib.frozen_of_heap hr4 0
 have f1 : W4.frozen? ⟨w.heap.size, 1, none⟩ = false := Lib.frozen_of_heap hr4 1
 have hsz3 : w2.heap.size ≤ w3.heap.size := HK3.out.size
 have hbq : b ≠ w.heap.size := fun h => by have := (HOW.out b hob).2; omega
 have HR4 := Lib.hid hr4
 have HK4 := Lib.hid hk4
 clear hr4 hk4 hq4 ht4 hW4
 refine wp_region_K 9 (fun w' => w'.cell? ⟨w3.heap.size, 0, none⟩ = some (.int .i64 c.err) ∧ w'.cell? ⟨w3.heap.size, 1, none⟩ = some (.int .i64 c.n) ∧ w'.cell? ⟨Q, 1, none⟩ = some (.pointer (some ⟨b, 0, none⟩)) ∧ w'.cell? ⟨b, 4, none⟩ = some (.int .i64 c.reads)) (by kernel_rfl) ?_
 have hHeld : W4.drew.cell? ⟨w3.heap.size, 0, none⟩ = some (.int .i64 c.err) ∧ W4.drew.cell? ⟨w3.heap.size, 1, none⟩ = some (.int .i64 c.n) ∧ W4.drew.cell? ⟨Q, 1, none⟩ = some (.pointer (some ⟨b, 0, none⟩)) ∧ W4.drew.cell? ⟨b, 4, none⟩ = some (.int .i64 c.reads) := ⟨t0, t1, q1, b4⟩
 refine K_is [0, 1, 2, 3, 4, 5, 6, 7] ?_
 iterate 8 (refine K_yD (v := ?_) rfl rfl (by kernel_rfl) (fun _ _ _ h => h) (by rfl) ?_ (by assumption) ?_; rotate_left; (· intro _ hSw; (obtain ⟨hS0, hS1, hS2, hS3⟩ := hSw); first | (go_simp; done) | (go_simp; with_reducible rfl)); try simp only [List.setIfInBounds_toArray, List.set_cons_zero, List.set_cons_succ])
 refine K_no ?_
 have hkX : Keeps (fun j => j = w.heap.size) W4.drew ((W4.drew.setCell ⟨w.heap.size, 0, none⟩ (.int .i64 c.err)).setCell ⟨w.heap.size, 1, none⟩ (.int .i64 c.n)) := ((Keeps.refl (fun j => j = w.heap.size) W4.drew).setCell (p := ⟨w.heap.size, 0, none⟩) (fun _ => rfl) _).setCell (p := ⟨w.heap.size, 1, none⟩) (fun _ => rfl) _
 have hH2 := (⟨hkX.cell_some hHeld.1 (by simp only; omega), hkX.cell_some hHeld.2.1 (by simp only; omega), hkX.cell_some hHeld.2.2.1 (by simp only; omega), hkX.cell_some hHeld.2.2.2 hbq⟩ : _ ∧ _ ∧ _ ∧ _)
 refine K_one (i := 8) (by kernel_rfl) rfl (fun K hK => ?_)
 go_simp
 refine hK.out _ _ hH2 (fun hHeld2 => ?_)
 clear hK K
 try simp only [Act.put, List.setIfInBounds_toArray, List.set_cons_zero, List.set_cons_succ]
 refine K_last (by kernel_rfl) rfl (fun K hK => ?_)
 go_simp
 refine hK.out _ _ ?_
 clear hK K hHeld hHeld2
 try simp only [Act.put, List.setIfInBounds_toArray, List.set_cons_zero, List.set_cons_succ]
 refine K_done (by kernel_rfl) ?_ _
 go_wp2
 obtain ⟨X, hX⟩ : ∃ X, ((W4.setCell ⟨w.heap.size, 0, none⟩ (.int .i64 c.err)).setCell ⟨w.heap.size, 1, none⟩ (.int .i64 c.n)).drew = X := ⟨_, rfl⟩
 have hkX : Keeps (fun j => j = w.heap.size) W4 X := by
  rw [← hX]
  exact (((Keeps.refl (fun j => j = w.heap.size) W4).setCell (p := ⟨w.heap.size, 0, none⟩) (fun _ => rfl) _).setCell (p := ⟨w.heap.size, 1, none⟩) (fun _ => rfl) _).drew
 have hgX : X.heap[w.heap.size]? = some (.cells #[.int .i64 c.err, .int .i64 c.n] 25 (0, 0)) := by
  rw [← hX]
  exact (heap_set (heap_set HR4.out _) _).trans rfl
 rw [hX]
 refine bodyPost_ret (res_told (x := .int .i64 c.err) (y := .int .i64 c.n) (v := .int .i64 c.reads) (B := w.heap.size) rfl rfl rfl hgX) rfl ⟨rfl, ?_⟩
 have hkW : Keeps (fun j => j = w.heap.size) w2 X := (HK4.out.mono (fun _ _ h => h.elim)).tr hkX
 have ho1 : ∀ j, o1 j → ¬ j = w.heap.size := fun j h1 h2 => by
  subst h2
  rcases HM2.out.2 _ h1 with h | h
  ·exact hqn h
  ·omega
 have hpX := HP2.out.keep hkW (fun j h1 h2 => ho1 j h2 h1) (fun j h1 => by omega)
 have hmX : Mv o' o1 w X := ⟨((HF.out.mono (fun _ _ h => h.elim) : Keeps o' w W).tr HM2.out.1).trans hkW (fun j h1 h2 => by omega), fun j hj => by
   rcases HM2.out.2 j hj with h | h
   ·exact .inl h
   ·exact .inr (by omega)⟩
 exact Pl.turn HQ1.out h3 h4 h5 hpX hmX
end Go.Proofs.YtbioecifiogffaaGreatDoor
namespace Go.Proofs.YtbioecifiogffaaGreatDoor
open Go.RowKit
theorem Tryz.infoPlE : (Tryz.prog.info? 38).map (fun i => (i.zero, i.size, i.bytes)) = some (some (.agg #[.int .i64 0, .bool false, .int .i64 0, .string ⟨#[]⟩]), 4, 40) := by kernel_rfl
structure AllV (Br Bs Bl Bn : Nat) (n : Int) (st : Bool) (w : World) (L : List Ev) (v : Value) (o : Nat → Prop) : Prop where
 r : w.heap[Br]? = some (.cells #[.bool true] 4 (0, 0))
 s : w.heap[Bs]? = some (.cells #[.bool st] 4 (0, 0))
 l : w.heap[Bl]? = some (.cells #[v] 34 (0, 0))
 n : w.heap[Bn]? = some (.cells #[.int .i64 n] 3 (0, 0))
 e : Evs w 38 v L
 o : ∀ b, o b ↔ (b = Br ∨ b = Bs ∨ b = Bl ∨ b = Bn ∨ v.ownBlock = some b)
 ne : Br ≠ Bs
def AllJ (Br Bs Bl Bn : Nat) (n : Int) (w : World) (L : List Ev) (o : Nat → Prop) : Prop := (∃ v, AllV Br Bs Bl Bn n false w L v o) ∧ ∀ k : Nat, 1 ≤ k → k ≤ L.length → (k : Int) ≠ n
def AllX (Br Bs Bl Bn : Nat) (n : Int) (w : World) (L : List Ev) (o : Nat → Prop) : Prop := (∃ v, AllV Br Bs Bl Bn n true w L v o) ∧ (L.length : Int) = n ∧ 1 ≤ n
theorem AllV.kept {Br Bs Bl Bn : Nat} {n : Int} {st : Bool} {w w' : World} {L : List Ev} {v : Value} {o D : Nat → Prop} (h : AllV Br Bs Bl Bn n st w L v o) (hk : Keeps D w w') (hD : ∀ b, D b → ¬ o b) : AllV Br Bs Bl Bn n st w' L v o where
 r := hk.heap_some h.r (fun h' => hD _ h' ((h.o _).2 (.inl rfl)))
 s := hk.heap_some h.s (fun h' => hD _ h' ((h.o _).2 (.inr (.inl rfl))))
 l := hk.heap_some h.l (fun h' => hD _ h' ((h.o _).2 (.inr (.inr (.inl rfl)))))
 n := hk.heap_some h.n (fun h' => hD _ h' ((h.o _).2 (.inr (.inr (.inr (.inl rfl))))))
 e := h.e.kept hk (fun k hk' h' => hD _ h' ((h.o _).2 (.inr (.inr (.inr (.inr hk'))))))
 o := h.o
 ne := h.ne
theorem allY_any (Br Bs Bl Bn : Nat) (n : Int) (x : Ev) (w : World) (L : List Ev) (o : Nat → Prop) (h : AllJ Br Bs Bl Bn n w L o) (hL : L.length < 5000) :
 Calls Tryz.prog 54 (#[evV x] ++ #[.pointer (some ⟨Br, 0, none⟩), .pointer (some ⟨Bs, 0, none⟩), .pointer (some ⟨Bl, 0, none⟩), .pointer (some ⟨Bn, 0, none⟩)]) w fun e w' => ∃ (go : Bool) (o' : Nat → Prop), e = .returned (.bool go) ∧ Mv o o' w w' ∧ (go = true → AllJ Br Bs Bl Bn n w' (L ++ [x]) o') ∧ (go = false → AllX Br Bs Bl Bn n w' (L ++ [x]) o') := by
 obtain ⟨⟨v, hv⟩, hn⟩ := h
 obtain ⟨q, c, rfl, -, -, -⟩ := own_form hv.e
 obtain ⟨W, hW⟩ : ∃ W, w.alloc (.cells #[.int .i64 x.kind, .bool x.fin, .int .i64 x.level, .string ⟨x.text.toArray⟩] 97) = W := ⟨_, rfl⟩
 have hFW : Fresh w W := by rw [← hW]; exact (Keeps.refl _ w).alloc _
 have hzW : W.heap.size = w.heap.size + 1 := by rw [← hW]; simp
 have hbW : W.heap[w.heap.size]? = some (.cells #[.int .i64 x.kind, .bool x.fin, .int .i64 x.level, .string ⟨x.text.toArray⟩] 97 (0, 0)) := by rw [← hW]; exact heap_alloc_new w _
 have hvW := hv.kept hFW (fun _ h => h.elim)
 have c0 : W.cell? ⟨w.heap.size, 0, none⟩ = some (.int .i64 x.kind) := by rw [Lib.cell_of_heap hbW]; rfl
 have c1 : W.cell? ⟨w.heap.size, 1, none⟩ = some (.bool x.fin) := by rw [Lib.cell_of_heap hbW]; rfl
 have c2 : W.cell? ⟨w.heap.size, 2, none⟩ = some (.int .i64 x.level) := by rw [Lib.cell_of_heap hbW]; rfl
 have c3 : W.cell? ⟨w.heap.size, 3, none⟩ = some (.string ⟨x.text.toArray⟩) := by rw [Lib.cell_of_heap hbW]; rfl
 have cr : W.cell? ⟨Br, 0, none⟩ = some (.bool true) := by rw [Lib.cell_of_heap hvW.r]; rfl
 have cs : W.cell? ⟨Bs, 0, none⟩ = some (.bool false) := by rw [Lib.cell_of_heap hvW.s]; rfl
 have fr : W.frozen? ⟨Br, 0, none⟩ = false := Lib.frozen_of_heap hvW.r 0
 obtain ⟨W1, hW1⟩ : ∃ W1, W.setCell ⟨Br, 0, none⟩ (.bool true) = W1 := ⟨_, rfl⟩
 have hk1 : Keeps (fun j => j = Br) W W1 := by rw [← hW1]; exact (Keeps.refl (fun j => j = Br) W).setCell (p := ⟨Br, 0, none⟩) (fun _ => rfl) _
 have nrl : Br ≠ Bl := ne_of_types hvW.r hvW.l (by decide)
 have nrn : Br ≠ Bn := ne_of_types hvW.r hvW.n (by decide)
 have nsl : Bs ≠ Bl := ne_of_types hvW.s hvW.l (by decide)
 have nsn : Bs ≠ Bn := ne_of_types hvW.s hvW.n (by decide)
 have nln : Bl ≠ Bn := ne_of_types hvW.l hvW.n (by decide)
 have nvr : ¬ (Value.slice q L.length c).ownBlock = some Br := own_ne hvW.e hvW.r (by decide)
 have nvs : ¬ (Value.slice q L.length c).ownBlock = some Bs := own_ne hvW.e hvW.s (by decide)
 have nvl : ¬ (Value.slice q L.length c).ownBlock = some Bl := own_ne hvW.e hvW.l (by decide)
 have nvn : ¬ (Value.slice q L.length c).ownBlock = some Bn := own_ne hvW.e hvW.n (by decide)
 have hvl : ∀ k, (Value.slice q L.length c).ownBlock = some k → k < w.heap.size := fun k hk => own_lt hv.e hk
 have hrl : Br < w.heap.size := (Array.getElem?_eq_some_iff.1 hv.r).1
 have hsl : Bs < w.heap.size := (Array.getElem?_eq_some_iff.1 hv.s).1
 have hll : Bl < w.heap.size := (Array.getElem?_eq_some_iff.1 hv.l).1
 have hnl : Bn < w.heap.size := (Array.getElem?_eq_some_iff.1 hv.n).1
 have hv1 : AllV Br Bs Bl Bn n false W1 L (.slice q L.length c) o := ⟨by rw [← hW1, heap_set hvW.r]; rfl, hk1.heap_some hvW.s (fun h => hv.ne h.symm), hk1.heap_some hvW.l (fun h => nrl h.symm), hk1.heap_some hvW.n (fun h => nrn h.symm), hvW.e.kept hk1 (fun k hk' h => nvr (h ▸ hk')), hv.o, hv.ne⟩
 have hb1 := hk1.heap_some hbW (by omega)
 have hkw1 : Keeps (fun j => j = Br) w W1 := (hFW.mono (fun _ _ h => h.elim)).tr hk1
 have d0 : W1.cell? ⟨Bl, 0, none⟩ = some (.slice q L.length c) := by rw [Lib.cell_of_heap hv1.l]; rfl
 have e0 : W1.cell? ⟨w.heap.size, 0, none⟩ = some (.int .i64 x.kind) := by rw [Lib.cell_of_heap hb1]; rfl
 have e1 : W1.cell? ⟨w.heap.size, 1, none⟩ = some (.bool x.fin) := by rw [Lib.cell_of_heap hb1]; rfl
 have e2 : W1.cell? ⟨w.heap.size, 2, none⟩ = some (.int .i64 x.level) := by rw [Lib.cell_of_heap hb1]; rfl
 have e3 : W1.cell? ⟨w.heap.size, 3, none⟩ = some (.string ⟨x.text.toArray⟩) := by rw [Lib.cell_of_heap hb1]; rfl
 have HV1 := Lib.hid hv1
 have HKW1 := Lib.hid hkw1
 have HO := Lib.hid hv.o
 have HNE := Lib.hid hv.ne
 have HN := Lib.hid hn
 have HI := Lib.hid Tryz.infoPlE
 have hzW1 : W1.heap.size = w.heap.size + 1 := by rw [← hW1]; simp [hzW]
 clear hv hn hvW hbW hk1 hv1 hb1 hkw1 hFW
 unfold evV
 go_enter Tryz.func54, Tryz.ntmps54
 go_upto_region 2 with fail
 clear hW hW1 c0 c1 c2 c3 cr cs fr
 refine wp_region_K 5 (fun w' => w'.cell? ⟨Bl, 0, none⟩ = some (.slice q L.length c) ∧ w'.cell? ⟨w.heap.size, 0, none⟩ = some (.int .i64 x.kind) ∧ w'.cell? ⟨w.heap.size, 1, none⟩ = some (.bool x.fin) ∧ w'.cell? ⟨w.heap.size, 2, none⟩ = some (.int .i64 x.level) ∧ w'.cell? ⟨w.heap.size, 3, none⟩ = some (.string ⟨x.text.toArray⟩)) (by kernel_rfl) ?_
 have hkp : ∀ (D : Nat → Prop) (A B : World), (A.cell? ⟨Bl, 0, none⟩ = some (.slice q L.length c) ∧ A.cell? ⟨w.heap.size, 0, none⟩ = some (.int .i64 x.kind) ∧ A.cell? ⟨w.heap.size, 1, none⟩ = some (.bool x.fin) ∧ A.cell? ⟨w.heap.size, 2, none⟩ = some (.int .i64 x.level) ∧ A.cell? ⟨w.heap.size, 3, none⟩ = some (.string ⟨x.text.toArray⟩)) → Keeps D A B → ¬ D Bl → ¬ D w.heap.size → (B.cell? ⟨Bl, 0, none⟩ = some (.slice q L.length c) ∧ B.cell? ⟨w.heap.size, 0, none⟩ = some (.int .i64 x.kind) ∧ B.cell? ⟨w.heap.size, 1, none⟩ = some (.bool x.fin) ∧ B.cell? ⟨w.heap.size, 2, none⟩ = some (.int .i64 x.level) ∧ B.cell? ⟨w.heap.size, 3, none⟩ = some (.string ⟨x.text.toArray⟩)) := by
  rintro D A B ⟨h0, h1, h2, h3, h4⟩ hk n1 n2
  exact ⟨hk.cell_some h0 n1, hk.cell_some h1 n2, hk.cell_some h2 n2, hk.cell_some h3 n2, hk.cell_some h4 n2⟩
 have hHeld := hkp (fun _ => False) W1 W1.drew ⟨d0, e0, e1, e2, e3⟩ ((Keeps.refl (fun _ => False) W1).drew) (fun h => h) (fun h => h)
 have HKP := Lib.hid hkp
 clear hkp d0 e0 e1 e2 e3
 refine K_is [0, 1] ?_
 iterate 2 (refine K_yD (v := ?_) rfl rfl (by kernel_rfl) (fun _ _ _ h => h) (by rfl) ?_ (by assumption) ?_; rotate_left; (· intro _ hSw; (obtain ⟨hS0, hS1, hS2, hS3, hS4⟩ := hSw); first | (go_simp; done) | (go_simp; with_reducible rfl)); try simp only [List.setIfInBounds_toArray, List.set_cons_zero, List.set_cons_succ])
 refine K_no ?_
 refine K_one (i := 2) (by kernel_rfl) rfl (fun K hK => ?_)
 go_simp
 refine (event_any x _).mono ?_
 rintro e w2 ⟨rfl, hk2⟩
 have hHeld2 := HKP.out _ _ _ hHeld hk2 (fun h => h) (fun h => h)
 refine hK.out _ _ hHeld2 (fun hH2 => ?_)
 clear hK K hHeld hHeld2
 try simp only [Act.put, List.setIfInBounds_toArray, List.set_cons_zero, List.set_cons_succ]
 have hkW2 : Fresh W1 w2 := ((Keeps.refl (fun _ => False) W1).drew).tr hk2
 have HK2 := Lib.hid hkW2
 clear hk2 hkW2
 refine K_one (i := 3) (by kernel_rfl) rfl (fun K hK => ?_)
 go_simp
 have hfr : Fresh w2 (w2.alloc (.cells #[.int .i64 x.kind, .bool x.fin, .int .i64 x.level, .string ⟨x.text.toArray⟩] 38)) := (Keeps.refl _ _).alloc _
 have hHeld3 := HKP.out _ _ _ hH2 hfr (fun h => h) (fun h => h)
 refine hK.out _ _ hHeld3 (fun hH3 => ?_)
 clear hK K hH2 hHeld3
 try simp only [Act.put, List.setIfInBounds_toArray, List.set_cons_zero, List.set_cons_succ]
 have hr3 := own_kept HV1.out.e (HK2.out.tr hfr) (fun _ _ h => h)
 refine K_one (i := 4) (by kernel_rfl) rfl (fun K hK => ?_)
 refine step_append_mine _ (by rfl) _ _ 34 (by rfl) 38 _ 4 40 Tryz.underlying34 HI.out rfl (by decide) (.slice q L.length c) L.length (evCells L) (by rfl) hr3 (some ⟨w2.heap.size, 0, none⟩) 1 1 x.cells (by rfl) rfl (fun h => (by cases h)) (ev_new w2 x 38) (ev_one _) (by unfold maxLen; omega) (by omega) ?_
 intro pp cc w4 hrow hgr hk4
 have hs2 := HK2.out.size
 have hHeld4 := HKP.out _ _ _ hH3 hk4 nvl (fun h => by have := hvl _ h; omega)
 refine hK.out _ _ hHeld4 (fun hH4 => ?_)
 clear hK K hH3 hHeld4
 try simp only [Act.put, List.setIfInBounds_toArray, List.set_cons_zero, List.set_cons_succ]
 have hk14 : Keeps (fun k => (Value.slice q L.length c).ownBlock = some k) W1 w4 := ((HK2.out.tr hfr).mono (fun _ _ h => h.elim)).tr hk4
 have hr4 := hk14.heap_some HV1.out.r nvr
 have hs4 := hk14.heap_some HV1.out.s nvs
 have hl4 := hk14.heap_some HV1.out.l nvl
 have hn4 := hk14.heap_some HV1.out.n nvn
 have fl4 : w4.frozen? ⟨Bl, 0, none⟩ = false := Lib.frozen_of_heap hl4 0
 have he4 : Evs w4 38 (.slice pp (L.length + 1) cc) (L ++ [x]) := by
  unfold Evs
  rw [evCells_append, evCells_one, List.length_append]
  exact hrow
 have hgr' : ∀ k, (Value.slice pp (L.length + 1) cc).ownBlock = some k → (Value.slice q L.length c).ownBlock = some k ∨ w.heap.size ≤ k := fun k hk => by
  rcases hgr k hk with h | h
  ·exact .inl h
  ·simp at h; exact .inr (by omega)
 refine K_last (by kernel_rfl) rfl (fun K hK => ?_)
 go_simp
 refine hK.out _ _ ?_
 clear hK K hH4
 try simp only [Act.put, List.setIfInBounds_toArray, List.set_cons_zero, List.set_cons_succ]
 refine K_done (by kernel_rfl) ?_ _
 obtain ⟨W5, hW5⟩ : ∃ W5, w4.setCell ⟨Bl, 0, none⟩ (.slice pp (L.length + 1) cc) = W5 := ⟨_, rfl⟩
 rw [hW5]
 have hk5 : Keeps (fun j => j = Bl) w4 W5 := by rw [← hW5]; exact (Keeps.refl (fun j => j = Bl) w4).setCell (p := ⟨Bl, 0, none⟩) (fun _ => rfl) _
 have hl5 : W5.heap[Bl]? = some (.cells #[.slice pp (L.length + 1) cc] 34 (0, 0)) := by rw [← hW5, heap_set hl4]; rfl
 have hr5 := hk5.heap_some hr4 nrl
 have hs5 := hk5.heap_some hs4 nsl
 have hn5 := hk5.heap_some hn4 (fun h => nln h.symm)
 have he5 := he4.kept hk5 (fun k hk' h => own_ne he4 hl4 (by decide) (h ▸ hk'))
 have hkw5 : Keeps (fun j => j = Br ∨ j = Bl ∨ (Value.slice q L.length c).ownBlock = some j) w W5 := ((HKW1.out.mono (fun _ _ h => .inl h)).trans hk14 (fun j _ h => .inr (.inr h))).trans hk5 (fun j _ h => .inr (.inl h))
 have g0 : W5.cell? ⟨Bs, 0, none⟩ = some (.bool false) := by rw [Lib.cell_of_heap hs5]; rfl
 have g1 : W5.cell? ⟨Bl, 0, none⟩ = some (.slice pp (L.length + 1) cc) := by rw [Lib.cell_of_heap hl5]; rfl
 have g2 : W5.cell? ⟨Bn, 0, none⟩ = some (.int .i64 n) := by rw [Lib.cell_of_heap hn5]; rfl
 have fs5 : W5.frozen? ⟨Bs, 0, none⟩ = false := Lib.frozen_of_heap hs5 0
 have b5 : ¬ (5000 : Int) < (L.length : Int) + 1 := by omega
 have HK5 := Lib.hid hkw5
 have HE5 := Lib.hid he5
 have HGR := Lib.hid hgr'
 have H5 := Lib.hid (⟨hr5, hs5, hl5, hn5⟩ : _ ∧ _ ∧ _ ∧ _)
 have nps : ∀ k, (Value.slice pp (L.length + 1) cc).ownBlock = some k → ¬ k = Bs := fun k hk h => own_ne he5 hs5 (by decide) (h ▸ hk)
 have HNPS := Lib.hid nps
 clear hW5 hrow hgr hk4 hk14 hr4 hs4 hl4 hn4 fl4 he4 hgr' hk5 hr5 hs5 hl5 hn5 he5 hkw5 hr3 hfr nps
 have hfin : ∀ (st : Bool) (X : World), W5.setCell ⟨Bs, 0, none⟩ (.bool st) = X → ∃ o', Mv o o' w X ∧ AllV Br Bs Bl Bn n st X (L ++ [x]) (.slice pp (L.length + 1) cc) o' := by
  intro st X hX
  have hkX : Keeps (fun j => j = Bs) W5 X := by rw [← hX]; exact (Keeps.refl (fun j => j = Bs) W5).setCell (p := ⟨Bs, 0, none⟩) (fun _ => rfl) _
  refine ⟨fun b => b = Br ∨ b = Bs ∨ b = Bl ∨ b = Bn ∨ (Value.slice pp (L.length + 1) cc).ownBlock = some b, ⟨(HK5.out.mono (fun j _ h => ?_) : Keeps o w W5).trans hkX (fun j h1 h2 => (HO.out j).2 (.inr (.inl h2))), fun j hj => ?_⟩, ⟨hkX.heap_some H5.out.1 HNE.out, by rw [← hX, heap_set H5.out.2.1]; rfl, hkX.heap_some H5.out.2.2.1 (fun h => nsl h.symm), hkX.heap_some H5.out.2.2.2 (fun h => nsn h.symm), HE5.out.kept hkX HNPS.out, fun b => Iff.rfl, HNE.out⟩⟩
  ·rcases h with h | h | h
   ·exact (HO.out j).2 (.inl h)
   ·exact (HO.out j).2 (.inr (.inr (.inl h)))
   ·exact (HO.out j).2 (.inr (.inr (.inr (.inr h))))
  ·rcases hj with h | h | h | h | h
   ·exact .inl ((HO.out j).2 (.inl h))
   ·exact .inl ((HO.out j).2 (.inr (.inl h)))
   ·exact .inl ((HO.out j).2 (.inr (.inr (.inl h))))
   ·exact .inl ((HO.out j).2 (.inr (.inr (.inr (.inl h)))))
   ·rcases HGR.out j h with h | h
    ·exact .inl ((HO.out j).2 (.inr (.inr (.inr (.inr h)))))
    ·exact .inr h
 have HFIN := Lib.hid hfin
 clear hfin
 by_cases hn1 : (L.length : Int) + 1 = n
 ·have hb : ((L.length : Int) + 1 == n) = true := by simpa using hn1
  have HN1 := Lib.hid hn1
  clear hn1
  go_wp2
  go_ret
  obtain ⟨o', hm, hv⟩ := HFIN.out true _ rfl
  exact .inl ⟨rfl, o', hm, ⟨_, hv⟩, by rw [List.length_append]; simpa using HN1.out, by have := HN1.out; omega⟩
 ·have hb : ((L.length : Int) + 1 == n) = false := by simpa using hn1
  have HN1 := Lib.hid hn1
  clear hn1
  go_wp2
  go_ret
  obtain ⟨o', hm, hv⟩ := HFIN.out false _ rfl
  refine .inr ⟨rfl, o', hm, ⟨_, hv⟩, fun k h1 h2 => ?_⟩
  rw [List.length_append] at h2
  simp only [List.length_cons, List.length_nil] at h2
  by_cases hk : k ≤ L.length
  ·exact HN.out k h1 hk
  ·have := HN1.out
   omega
end Go.Proofs.YtbioecifiogffaaGreatDoor
namespace Go.Proofs.YtbioecifiogffaaGreatDoor
open Go.RowKit
theorem res_two {fn : Func} {p1 p2 t1 t2 : Nat} (h : fn.results = #[.cell p1 t1, .cell p2 t2]) {tmps : Array Value} {P : Program} {w : World} {a1 a2 : Addr} {v1 v2 : Value} (h1 : tmps.getD p1 undef = .pointer (some a1)) (h2 : tmps.getD p2 undef = .pointer (some a2))
 (l1 : (loadVar t1 a1).run P w = .ok v1 w) (l2 : (loadVar t2 a2).run P w = .ok v2 w) : (results fn tmps).run P w = .ok (.tuple #[v1, v2]) w := by
 have h1' : tmps[p1]?.getD undef = .pointer (some a1) := by simpa using h1
 have h2' : tmps[p2]?.getD undef = .pointer (some a2) := by simpa using h2
 simp [results, h, h1', h2', asAddr, l1, l2, Sem.run_bind, Result.andThen]
theorem alloc3 (w : World) (o1 o2 o3 : Obj) : (((w.alloc o1).alloc o2).alloc o3).heap[w.heap.size]? = some o1 ∧ (((w.alloc o1).alloc o2).alloc o3).heap[w.heap.size + 1]? = some o2 ∧ (((w.alloc o1).alloc o2).alloc o3).heap[w.heap.size + 2]? = some o3 := by
 have s1 : (w.alloc o1).heap.size = w.heap.size + 1 := by simp
 have s2 : ((w.alloc o1).alloc o2).heap.size = w.heap.size + 2 := by simp
 have h1 := heap_alloc_new w o1
 have h2 := heap_alloc_new (w.alloc o1) o2
 have h3 := heap_alloc_new ((w.alloc o1).alloc o2) o3
 rw [s1] at h2
 rw [s2] at h3
 exact ⟨(Below.heap_alloc _ _ _ (by omega)).trans ((Below.heap_alloc _ _ _ (by omega)).trans h1), (Below.heap_alloc _ _ _ (by omega)).trans h2, h3⟩
def cutN (n : Int) (len : Nat) : Nat := if n < 1 ∨ (len : Int) < n then len else n.toNat
theorem allY_ok (Br Bs Bl Bn : Nat) (n : Int) (T : List Ev) (hT : T.length ≤ 5000) : YieldOK 54 #[.pointer (some ⟨Br, 0, none⟩), .pointer (some ⟨Bs, 0, none⟩), .pointer (some ⟨Bl, 0, none⟩), .pointer (some ⟨Bn, 0, none⟩)] T (AllJ Br Bs Bl Bn n) (AllX Br Bs Bl Bn n) where
 enter := enters_of Tryz.func54 (by kernel_rfl) rfl
 lt := by
  rintro w L o ⟨⟨v, h⟩, -⟩ b hb
  rcases (h.o b).1 hb with h1 | h1 | h1 | h1 | h1
  ·rw [h1]; exact (Array.getElem?_eq_some_iff.1 h.r).1
  ·rw [h1]; exact (Array.getElem?_eq_some_iff.1 h.s).1
  ·rw [h1]; exact (Array.getElem?_eq_some_iff.1 h.l).1
  ·rw [h1]; exact (Array.getElem?_eq_some_iff.1 h.n).1
  ·exact own_lt h.e h1
 keep := by
  rintro D w w' L o ⟨⟨v, h⟩, hn⟩ hk hD
  exact ⟨⟨v, h.kept hk hD⟩, hn⟩
 call := by
  rintro x w L o h ⟨rest, hr⟩
  refine allY_any Br Bs Bl Bn n x w L o h ?_
  rw [← hr] at hT
  simp at hT
  omega
theorem pAll_any (P : Nat) (w : World) :
 Calls Tryz.prog 47 #[.pointer (some ⟨P, 0, none⟩)] w fun e w' => e = .returned (fnV 74 #[.pointer (some ⟨w.heap.size, 0, none⟩)]) ∧ w'.heap[w.heap.size]? = some (.cells #[.pointer (some ⟨P, 0, none⟩)] 91 (0, 0)) ∧ Fresh w w' ∧ w'.heap.size = w.heap.size + 1 := by
 have hmf : ∀ (fn : Fn) (first cap : Array Value) (w : World), (Instr.makeFunc fn first cap).run Tryz.prog w = .ok (.func fn first cap) w := fun _ _ _ _ => rfl
 go_enter Tryz.func47, Tryz.ntmps47
 go_wp2
 go_ret
 exact ⟨rfl, heap_alloc_new w _, (Keeps.refl _ w).alloc _, by simp⟩
theorem eqFn (k : Nat) (caps : Array Value) (w : World) : (binOp .eql 112 (.func (.func k) #[] caps) .nilFunc).run Tryz.prog w = .ok (.bool false) w := by kernel_rfl
theorem pl_all {aL aI aS : Addr} {w0 w : World} {Q : Nat} {c : ComeL} {pulled : Bool} {R : List Ev} {o : Nat → Prop} (h : Pl aL aI aS w0 w Q c pulled R o) (hV : LaidVars aL aI aS w0) (hG : Gl w0) (n : Int) (hR : R.length ≤ 5000) :
 Calls Tryz.prog 31 #[.pointer (some ⟨Q, 0, none⟩), .int .i64 n] w fun e w' => ∃ v o', e = .returned (.tuple #[v, .bool true]) ∧ Evs w' 38 v (R.take (cutN n R.length)) ∧ (∀ k, v.ownBlock = some k → w.heap.size ≤ k ∧ ¬ o' k) ∧ Pl aL aI aS w0 w' Q c true (R.drop (cutN n R.length)) o' ∧ Mv o o' w w' := by
 obtain ⟨P, mb, b, o', h1, h2, h3, h4, h5⟩ := h.is
 have hmf : ∀ (fn : Fn) (first cap : Array Value) (w : World), (Instr.makeFunc fn first cap).run Tryz.prog w = .ok (.func fn first cap) w := fun _ _ _ _ => rfl
 obtain ⟨W, hW⟩ : ∃ W, ((w.alloc (.cells #[.int .i64 n] 3)).alloc (.cells #[.slice none 0 0] 34)).alloc (.cells #[.bool false] 4) = W := ⟨_, rfl⟩
 have hFW : Fresh w W := by rw [← hW]; exact (((Keeps.refl _ w).alloc _).alloc _).alloc _
 have hzW : W.heap.size = w.heap.size + 1 + 1 + 1 := by rw [← hW]; simp
 obtain ⟨hn, hl, hr⟩ : _ ∧ _ ∧ _ := alloc3 w (.cells #[.int .i64 n] 3) (.cells #[.slice none 0 0] 34) (.cells #[.bool false] 4)
 rw [hW] at hn hl hr
 go_enter Tryz.func31, Tryz.ntmps31
 go_upto_region 1 with fail
 clear hW
 obtain ⟨Br, hBr⟩ : ∃ Br, w.heap.size + 1 + 1 = Br := ⟨_, rfl⟩
 rw [show w.heap.size + 2 = Br from hBr] at hr
 rw [hBr] at hzW ⊢
 obtain ⟨Bl, hBl⟩ : ∃ Bl, w.heap.size + 1 = Bl := ⟨_, rfl⟩
 rw [hBl] at hl hBr ⊢
 obtain ⟨Bn, hBn⟩ : ∃ Bn, w.heap.size = Bn := ⟨_, rfl⟩
 rw [hBn] at hn hBl ⊢
 obtain ⟨Bp, hBp⟩ : ∃ Bp, W.heap.size = Bp := ⟨_, rfl⟩
 have hqW := hFW.heap_some h1 (fun h => h)
 have c0 : W.cell? ⟨Q, 0, none⟩ = some (.pointer (some ⟨P, 0, none⟩)) := by rw [Lib.cell_of_heap hqW]; rfl
 have hal := pAll_any P W
 rw [hBp] at hal hzW
 have hzl : Br < Bp := by omega
 unfold fnV at hal
 have how := h2.own
 have hs0 := h2.start.size
 have hql := (Array.getElem?_eq_some_iff.1 h1).1
 rw [hBn] at how hs0 hql
 have HAL := Lib.hid hal
 have HR1 := Lib.hid hr
 have HL1 := Lib.hid hl
 have HN1 := Lib.hid hn
 have HPW := Lib.hid (h2.fresh hFW)
 have HFW := Lib.hid hFW
 have H1 := Lib.hid h1
 have HOW := Lib.hid how
 have HV := Lib.hid hV
 have HG := Lib.hid hG
 have HBN := Lib.hid hBn
 have HBP := Lib.hid hBp
 clear hal hr hl hn hFW h1 h2 hV hG how h hqW hBn hBp hzW
 go_wp2_with fail
 refine HAL.out.mono ?_
 rintro e w1 ⟨rfl, hbp, hk1, hz1⟩
 have hr1 := hk1.heap_some HR1.out (fun h => h)
 have hl1 := hk1.heap_some HL1.out (fun h => h)
 have hn1 := hk1.heap_some HN1.out (fun h => h)
 have hp1 := HPW.out.fresh hk1
 have r0 : w1.cell? ⟨Br, 0, none⟩ = some (.bool false) := by rw [Lib.cell_of_heap hr1]; rfl
 have rf : w1.frozen? ⟨Br, 0, none⟩ = false := Lib.frozen_of_heap hr1 0
 have ef := eqFn 74 #[.pointer (some ⟨Bp, 0, none⟩)]
 have hzs : Bp < w1.heap.size := by omega
 clear hz1
 obtain ⟨W2, hW2⟩ : ∃ W2, (w1.setCell ⟨Br, 0, none⟩ (.bool true)).alloc (.cells #[.bool false] 4) = W2 := ⟨_, rfl⟩
 have hkA : Keeps (fun j => j = Br) w1 (w1.setCell ⟨Br, 0, none⟩ (.bool true)) := (Keeps.refl (fun j => j = Br) w1).setCell (p := ⟨Br, 0, none⟩) (fun _ => rfl) _
 have hk2 : Keeps (fun j => j = Br) w1 W2 := by rw [← hW2]; exact hkA.alloc _
 have hr2 : W2.heap[Br]? = some (.cells #[.bool true] 4 (0, 0)) := by
  rw [← hW2]
  refine (Below.heap_alloc _ _ _ (by simp; omega)).trans ?_
  rw [heap_set hr1]; rfl
 have hs2 : W2.heap[(w1.heap.size)]? = some (.cells #[.bool false] 4 (0, 0)) := by
  rw [← hW2]
  have := heap_alloc_new (w1.setCell ⟨Br, 0, none⟩ (.bool true)) (.cells #[.bool false] 4)
  rw [show (w1.setCell ⟨Br, 0, none⟩ (.bool true)).heap.size = w1.heap.size by simp] at this
  exact this
 have hl2 := hk2.heap_some hl1 (by omega)
 have hn2 := hk2.heap_some hn1 (by omega)
 have hbp2 := hk2.heap_some hbp (by omega)
 have hp2 := hp1.keep hk2 (fun j h6 h7 => by have := (HOW.out j h7).2; omega) (fun j h6 => by omega)
 have hJ : AllJ Br (w1.heap.size) Bl Bn n W2 [] (fun j => j = Br ∨ j = (w1.heap.size) ∨ j = Bl ∨ j = Bn) :=
  ⟨⟨.slice none 0 0, ⟨hr2, hs2, hl2, hn2, Evs.nil _ _, fun b => by simp [Value.ownBlock], by omega⟩⟩, fun k h1 h2 => by simp at h2; omega⟩
 have hit := All1_any (allY_ok Br (w1.heap.size) Bl Bn n R hR) hp2 HV.out HG.out hJ (by simp) (fun j h6 h7 => by have := (HOW.out j h6).2; omega) (fun j h6 => by omega) hbp2 (fun h6 => by have := (HOW.out _ h6).2; omega) (by omega)
 unfold fnV at hit
 have HIT := Lib.hid hit
 have HK : Hid (Keeps (fun j => j = Br) w W2) := Lib.hid (((HFW.out.tr hk1).mono (fun _ _ h => h.elim)).tr hk2)
 have HW2 := Lib.hid hW2
 clear hit hkA hk2 hr2 hs2 hl2 hn2 hbp2 hp2 hJ hr1 hl1 hn1 hp1 hbp hk1 c0 hW2
 go_wp2_with fail
 rw [HW2.out]
 refine HIT.out.mono ?_
 rintro e w3 ⟨rfl, pre, rest, o1, o2, hT, hp3, hJ3, htw⟩
 have hcase : ∃ st v, AllV Br (w1.heap.size) Bl Bn n st w3 pre v o2 ∧ pre = R.take (cutN n R.length) ∧ rest = R.drop (cutN n R.length) := by
  have hl : R.length = pre.length + rest.length := by rw [← hT, List.length_append]
  rcases hJ3 with ⟨rfl, ⟨v, hv⟩, hn⟩ | ⟨⟨v, hv⟩, hn1, hn2⟩
  ·have hc : cutN n R.length = R.length := by
    unfold cutN
    split
    ·rfl
    ·rename_i h6
     exact absurd (by omega) (hn n.toNat (by omega) (by simp at hl; omega))
   rw [hc, List.take_length, List.drop_length]
   exact ⟨_, v, hv, by simpa using hT, rfl⟩
  ·have hc : cutN n R.length = pre.length := by
    unfold cutN
    rw [if_neg (by omega)]
    omega
   rw [hc, ← hT]
   exact ⟨_, v, hv, by simp, by simp⟩
 obtain ⟨st, v, hv, htk, hdr⟩ := hcase
 obtain ⟨vq, vc, rfl, -, -, -⟩ := own_form hv.e
 have d0 : w3.cell? ⟨Bl, 0, none⟩ = some (.slice vq pre.length vc) := by rw [Lib.cell_of_heap hv.l]; rfl
 have d1 : w3.cell? ⟨Br, 0, none⟩ = some (.bool true) := by rw [Lib.cell_of_heap hv.r]; rfl
 have fl : w3.frozen? ⟨Bl, 0, none⟩ = false := Lib.frozen_of_heap hv.l 0
 have fr : w3.frozen? ⟨Br, 0, none⟩ = false := Lib.frozen_of_heap hv.r 0
 have hlr : Bl ≠ Br := by omega
 have HV3 := Lib.hid hv
 have HP3 := Lib.hid hp3
 have HTW := Lib.hid htw
 have HTK := Lib.hid htk
 have HDR := Lib.hid hdr
 clear hv hp3 htw htk hdr hJ3 hT
 go_upto_region 7 with fail
 refine wp_region_K 3 (fun w' => w'.cell? ⟨Bl, 0, none⟩ = some (.slice vq pre.length vc) ∧ w'.cell? ⟨Br, 0, none⟩ = some (.bool true)) (by kernel_rfl) ?_
 have hHeld : w3.drew.cell? ⟨Bl, 0, none⟩ = some (.slice vq pre.length vc) ∧ w3.drew.cell? ⟨Br, 0, none⟩ = some (.bool true) := ⟨d0, d1⟩
 refine K_is [0, 1] ?_
 iterate 2 (refine K_yD (v := ?_) rfl rfl (by kernel_rfl) (fun _ _ _ h => h) (by rfl) ?_ (by assumption) ?_; rotate_left; (· intro _ hSw; (obtain ⟨hS0, hS1⟩ := hSw); first | (go_simp; done) | (go_simp; with_reducible rfl)); try simp only [List.setIfInBounds_toArray, List.set_cons_zero, List.set_cons_succ])
 refine K_no ?_
 obtain ⟨X1, hX1⟩ : ∃ X1, w3.drew.setCell ⟨Bl, 0, none⟩ (.slice vq pre.length vc) = X1 := ⟨_, rfl⟩
 have hkx1 : Keeps (fun j => j = Bl) w3 X1 := by rw [← hX1]; exact ((Keeps.refl (fun j => j = Bl) w3).drew).setCell (p := ⟨Bl, 0, none⟩) (fun _ => rfl) _
 have hlx1 : X1.heap[Bl]? = some (.cells #[.slice vq pre.length vc] 34 (0, 0)) := by
  have h9 : w3.drew.heap[Bl]? = some (.cells #[.slice vq pre.length vc] 34 (0, 0)) := HV3.out.l
  rw [← hX1, heap_set h9]; rfl
 have hrx1 := hkx1.heap_some HV3.out.r (fun h => hlr h.symm)
 refine K_one (i := 2) (by kernel_rfl) rfl (fun K hK => ?_)
 go_simp
 try rw [hX1]
 refine hK.out _ _ (⟨by rw [Lib.cell_of_heap hlx1]; rfl, by rw [Lib.cell_of_heap hrx1]; rfl⟩ : _ ∧ _) (fun hHeld2 => ?_)
 clear hK K
 try simp only [Act.put, List.setIfInBounds_toArray, List.set_cons_zero, List.set_cons_succ]
 have frx : X1.frozen? ⟨Br, 0, none⟩ = false := Lib.frozen_of_heap hrx1 0
 have crx : X1.cell? ⟨Br, 0, none⟩ = some (.bool true) := hHeld2.2
 refine K_last (by kernel_rfl) rfl (fun K hK => ?_)
 go_simp
 refine hK.out _ _ ?_
 clear hK K hHeld hHeld2
 try simp only [Act.put, List.setIfInBounds_toArray, List.set_cons_zero, List.set_cons_succ]
 refine K_done (by kernel_rfl) ?_ _
 obtain ⟨X, hX⟩ : ∃ X, X1.setCell ⟨Br, 0, none⟩ (.bool true) = X := ⟨_, rfl⟩
 rw [hX]
 have hkx : Keeps (fun j => j = Br) X1 X := by rw [← hX]; exact (Keeps.refl (fun j => j = Br) X1).setCell (p := ⟨Br, 0, none⟩) (fun _ => rfl) _
 have hrx : X.heap[Br]? = some (.cells #[.bool true] 4 (0, 0)) := by rw [← hX, heap_set hrx1]; rfl
 have hlx := hkx.heap_some hlx1 hlr
 have cl : X.cell? ⟨Bl, 0, none⟩ = some (.slice vq pre.length vc) := by rw [Lib.cell_of_heap hlx]; rfl
 have cr : X.cell? ⟨Br, 0, none⟩ = some (.bool true) := by rw [Lib.cell_of_heap hrx]; rfl
 have hkk : Keeps (fun j => j = Bl ∨ j = Br) w3 X := (hkx1.mono (fun _ _ h => .inl h)).tr (hkx.mono (fun _ _ h => .inr h))
 have HKK := Lib.hid hkk
 clear hX1 hX hkx1 hkx hlx1 hrx1 hlx hrx hkk frx crx d0 d1 fl fr
 go_wp2
 have l1 : (loadVar 34 ⟨Bl, 0, none⟩).run Tryz.prog X = .ok (.slice vq pre.length vc) X := by go_simp
 have l2 : (loadVar 4 ⟨Br, 0, none⟩).run Tryz.prog X = .ok (.bool true) X := by go_simp
 refine bodyPost_ret (res_two rfl rfl rfl l1 l2) rfl ?_
 have hoB : o2 Bl ∧ o2 Br := ⟨(HV3.out.o _).2 (.inr (.inr (.inl rfl))), (HV3.out.o _).2 (.inl rfl)⟩
 have hoj : ∀ j, (j = Br ∨ j = w1.heap.size ∨ j = Bl ∨ j = Bn) → w.heap.size ≤ j := fun j h => by have := HBN.out; omega
 have hz2 : w.heap.size ≤ W2.heap.size := HK.out.size
 have hz3 : W2.heap.size ≤ w3.heap.size := HTW.out.kp.size
 have hgb : ∀ j, o2 j → w.heap.size ≤ j := fun j hj => by
  rcases HTW.out.gb j hj with h | h
  ·exact hoj j h
  ·omega
 have hpX := HP3.out.keep HKK.out (fun j h6 h7 => by rcases h6 with h6 | h6; exact HTW.out.dj j h7 (h6 ▸ hoB.1); exact HTW.out.dj j h7 (h6 ▸ hoB.2)) (fun j h6 => by have := HBN.out; rcases h6 with h6 | h6 <;> omega)
 have hmX : Mv o' o1 w X := by
  refine ⟨?_, fun j hj => ?_⟩
  ·refine ((HK.out.mono (fun j h1 h2 => ?_) : Keeps o' w W2).trans HTW.out.kp (fun j h1 h2 => ?_)).trans HKK.out (fun j h1 h2 => ?_)
   ·have := HBN.out; omega
   ·rcases h2 with h2 | h2
    ·exact h2
    ·have := hoj j h2; omega
   ·have := HBN.out; rcases h2 with h2 | h2 <;> omega
  ·rcases HTW.out.ga j hj with h | h
   ·exact .inl h
   ·exact .inr (by omega)
 obtain ⟨o9, h9, hm9, ho9⟩ := Pl.turn' H1.out h3 h4 h5 hpX hmX
 have hee : Evs X 38 (.slice vq pre.length vc) pre := HV3.out.e.kept HKK.out (fun k hk h => by rcases h with h | h; exact own_ne HV3.out.e HV3.out.l (by decide) (h ▸ hk); exact own_ne HV3.out.e HV3.out.r (by decide) (h ▸ hk))
 rw [← show pre = R.take (cutN n R.length) from HTK.out, ← show rest = R.drop (cutN n R.length) from HDR.out]
 refine ⟨_, o9, rfl, hee, fun k hk => ?_, h9, hm9⟩
 have hk2 : o2 k := (HV3.out.o _).2 (.inr (.inr (.inr (.inr hk))))
 refine ⟨hgb k hk2, fun h => ?_⟩
 rcases ho9 k h with h | h
 ·exact HTW.out.dj k h hk2
 ·have := hgb k hk2
  have := HBN.out
  omega
end Go.Proofs.YtbioecifiogffaaGreatDoor
namespace Go.Proofs.YtbioecifiogffaaGreatDoor
open Go.RowKit
theorem hNew_any (S : Nat) (s0 : Option Snk) (w : World) :
 Calls Tryz.prog 46 #[toV S s0] w fun e w' => e = .returned (.pointer (some ⟨w.heap.size, 0, none⟩)) ∧ w' = w.alloc (.cells #[toV S s0, .slice none 0 0, .int .i64 0] 151) := by
 cases s0 with
 | none =>
  unfold toV
  simp only
  go_enter Tryz.func46, Tryz.ntmps46
  go_wp2
  go_ret
  exact ⟨rfl, rfl⟩
 | some sk =>
  unfold toV
  simp only
  go_enter Tryz.func46, Tryz.ntmps46
  go_wp2
  go_ret
  exact ⟨rfl, rfl⟩
theorem hCount_any (C : Nat) (n : Int) (w : World) (h : w.cell? ⟨C, 2, none⟩ = some (.int .i64 n)) :
 Calls Tryz.prog 50 #[.pointer (some ⟨C, 0, none⟩)] w fun e w' => e = .returned (.int .i64 n) ∧ w' = w := by
 go_enter Tryz.func50, Tryz.ntmps50
 go_wp2
 go_ret
 exact ⟨rfl, rfl⟩
theorem WS.count {w0 : World} {S C : Nat} {tv : Value} {w : World} {bs : List UInt8} {n : Nat} {s : Option Snk} {o : Nat → Prop} (h : WS w0 S C tv w bs n s o) : w.cell? ⟨C, 2, none⟩ = some (.int .i64 n) := by
 obtain ⟨a, cap, hC⟩ := h.blk
 rw [Lib.cell_of_heap hC]; rfl
theorem ws_new {w0 w : World} {S C : Nat} {tv : Value} {s0 : Option Snk} (hC : w.heap[C]? = some (.cells #[toV S s0, .slice none 0 0, .int .i64 0] 151 (0, 0))) (hF : Fresh w0 w) (hC0 : w0.heap.size ≤ C)
 (hs : ∀ sk, s0 = some sk → SnkAt w S tv (.slice none 0 0) sk ∧ sk.none = false ∧ IntsAt w0 tv sk.takes ∧ sk.takes.length ≤ 1048576 ∧ w0.heap.size ≤ S) :
 WS w0 S C tv w [] 0 s0 (fun b => b = C ∨ (s0 ≠ none ∧ b = S)) := by
 refine ⟨.slice none 0 0, .slice none 0 0, hC, WaitAt.nil _, fun sk h => ⟨(hs sk h).1, (hs sk h).2.1, (hs sk h).2.2.1, (hs sk h).2.2.2.1⟩, fun b h => (by cases h), fun b => ?_, hF, fun b hb => ?_⟩
 ·simp [Value.ownBlock]
 ·rcases hb with h | ⟨h1, h2⟩
  ·omega
  ·cases s0 with
   | none => exact absurd rfl h1
   | some sk => have := (hs sk rfl).2.2.2.2; omega
theorem par_new {aL aI aS : Addr} {w0 w3 w4 : World} {b : Nat} {fv : Value} {c : ComeL} {G : Nat → Prop} (hF : Fresh w0 w3) (hP4 : w4.heap[w3.heap.size + 1]? = some (.cells #[fv, .bool false, .nilIface, .slice none 0 0, .string ⟨#[]⟩, .map (some w3.heap.size), .slice none 0 0] 144 (0, 0)))
 (hm4 : w4.heap[w3.heap.size]? = some (.map #[] 0)) (hk4 : Fresh w3 w4) (hz4 : w4.heap.size = w3.heap.size + 2) (hb : w0.heap.size ≤ b ∧ b < w3.heap.size)
 (hc : (c.err = 0 ∨ c.err = 1 ∨ c.err = 2 ∨ c.err = 4) ∧ c.text.length ≤ 1200) (h0 : w3.cell? ⟨b, 4, none⟩ = some (.int .i64 0)) (hG : ∀ j, G j → w0.heap.size ≤ j ∧ j < w3.heap.size)
 (hs : ∀ o : Nat → Prop, (∀ j, G j → o j) → SrcS w3 (w3.heap.size + 1) b fv c o) :
 Par aL aI aS w0 w4 (w3.heap.size + 1) w3.heap.size b c false (comeE c) (fun j => j = w3.heap.size + 1 ∨ j = w3.heap.size ∨ j = b ∨ G j) := by
 have hs0 := hF.size
 refine ⟨hF.tr hk4, fun j hj => ?_, .inl rfl, .inr (.inl rfl), .inr (.inr (.inl rfl)), by omega, by omega, hc, .inl ⟨rfl, ⟨fv, hP4, ?_⟩, hm4, hk4.cell_some h0 (fun h => h), rfl⟩⟩
 ·rcases hj with h | h | h | h
  ·omega
  ·omega
  ·omega
  ·have := hG j h; omega
 ·exact (hs _ (fun j hj => .inr (.inr (.inr hj)))).kept hk4 (fun h => h) (fun _ h => h.elim)
theorem ErrIs.of_werr {aL aI aS : Addr} {e : WEnd} {ev : Value} {n : Nat} {w : World} (h : WErr aS e ev n w) : ErrIs aL aI aS w ev (wErr e) (if e = .fine then 0 else n) := by
 cases e with
 | fine => exact .inl ⟨rfl, rfl, h⟩
 | sink => exact .inr (.inr (.inr (.inl ⟨rfl, h⟩)))
 | write => exact .inr (.inr (.inr (.inr (.inr ⟨rfl, h⟩))))
theorem ErrIs.fresh {aL aI aS : Addr} {W W' : World} {v : Value} {code n : Nat} (h : ErrIs aL aI aS W v code n) (hk : Fresh W W') : ErrIs aL aI aS W' v code n := by
 rcases h with h | h | h | ⟨h1, a, h2, h3⟩ | ⟨h1, a, c, x, h2, h3, h4⟩ | ⟨h1, a, c, x, h2, h3, h4⟩
 ·exact .inl h
 ·exact .inr (.inl h)
 ·exact .inr (.inr (.inl h))
 ·exact .inr (.inr (.inr (.inl ⟨h1, a, h2, hk.heap_some h3 (fun h => h)⟩)))
 ·exact .inr (.inr (.inr (.inr (.inl ⟨h1, a, c, x, h2, hk.heap_some h3 (fun h => h), hk.heap_some h4 (fun h => h)⟩))))
 ·exact .inr (.inr (.inr (.inr (.inr ⟨h1, a, c, x, h2, hk.heap_some h3 (fun h => h), hk.heap_some h4 (fun h => h)⟩))))
theorem ErrIs.kept2 {aL aI aS : Addr} {D : Nat → Prop} {W W' : World} {v : Value} {code n : Nat} (h : ErrIs aL aI aS W v code n) (hk : Keeps D W W')
 (hD : ∀ a x, D a → W.heap[a]? ≠ some (.cells x 125 (0, 0)) ∧ W.heap[a]? ≠ some (.cells x 123 (0, 0)) ∧ W.heap[a]? ≠ some (.cells x 297 (0, 0))) : ErrIs aL aI aS W' v code n := by
 rcases h with h | h | h | ⟨h1, a, h2, h3⟩ | ⟨h1, a, c, x, h2, h3, h4⟩ | ⟨h1, a, c, x, h2, h3, h4⟩
 ·exact .inl h
 ·exact .inr (.inl h)
 ·exact .inr (.inr (.inl h))
 ·exact .inr (.inr (.inr (.inl ⟨h1, a, h2, hk.heap_some h3 (fun h => (hD a _ h).1 h3)⟩)))
 ·exact .inr (.inr (.inr (.inr (.inl ⟨h1, a, c, x, h2, hk.heap_some h3 (fun h => (hD a _ h).2.1 h3), hk.heap_some h4 (fun h => (hD c _ h).2.2 h4)⟩))))
 ·exact .inr (.inr (.inr (.inr (.inr ⟨h1, a, c, x, h2, hk.heap_some h3 (fun h => (hD a _ h).1 h3), hk.heap_some h4 (fun h => (hD c _ h).2.2 h4)⟩))))
theorem ErrIs.three {aL aI aS : Addr} {W : World} {v : Value} {code n : Nat} (h : ErrIs aL aI aS W v code n) : (code = 0 ∧ n = 0 ∧ v = .nilIface) ∨ (code ≠ 0 ∧ ((∃ a, v = .iface 283 (.pointer (some a))) ∨ (∃ a, v = .iface 124 (.pointer (some ⟨a, 0, Option.none⟩))) ∨ ∃ a, v = .iface 117 (.pointer (some ⟨a, 0, Option.none⟩)))) := by
 rcases h with h | ⟨h1, h2, h3⟩ | ⟨h1, h2, h3⟩ | ⟨h1, a, h2, h3⟩ | ⟨h1, a, c, x, h2, h3, h4⟩ | ⟨h1, a, c, x, h2, h3, h4⟩
 ·exact .inl h
 ·exact .inr ⟨by omega, .inl ⟨_, h3⟩⟩
 ·exact .inr ⟨by omega, .inl ⟨_, h3⟩⟩
 ·exact .inr ⟨by omega, .inr (.inl ⟨_, h2⟩)⟩
 ·exact .inr ⟨by omega, .inr (.inr ⟨_, h2⟩)⟩
 ·exact .inr ⟨by omega, .inr (.inl ⟨_, h2⟩)⟩
theorem Of_err (aL aI aS : Addr) (w : World) (v : Value) (code n : Nat) (h : LaidVars aL aI aS w) (he : ErrIs aL aI aS w v code n) :
 Calls Tryz.prog 30 #[v] w fun e w' => e = .returned (.agg #[.int .i64 code, .int .i64 n]) ∧ Fresh w w' := by
 rcases he with ⟨rfl, rfl, rfl⟩ | ⟨rfl, rfl, rfl⟩ | ⟨rfl, rfl, rfl⟩ | ⟨rfl, a, rfl, ha⟩ | ⟨rfl, a, c, x, rfl, ha, _⟩ | ⟨rfl, a, c, x, rfl, ha, _⟩
 ·exact Of_nil w
 ·exact Of_long aL aI aS w h
 ·exact Of_idle aL aI aS w h
 ·exact Of_sink aL aI aS a n w h ha
 ·exact Of_read aL aI aS a c n w h ha
 ·exact Of_write aL aI aS a c n w h ha
end Go.Proofs.YtbioecifiogffaaGreatDoor
namespace Go.Proofs.YtbioecifiogffaaGreatDoor
open Go.RowKit
theorem WS.lt {w0 : World} {S C : Nat} {tv : Value} {w : World} {bs : List UInt8} {n : Nat} {s : Option Snk} {o : Nat → Prop} (h : WS w0 S C tv w bs n s o) : ∀ b, o b → b < w.heap.size := by
 obtain ⟨v, gv, hC, hw, hsk, hvg, ho, -, -⟩ := h
 intro b hb
 rcases (ho b).1 hb with h1 | h1 | ⟨h1, h2⟩
 ·rw [h1]; exact (Array.getElem?_eq_some_iff.1 hC).1
 ·exact hw.lt h1
 ·cases s with
  | none => exact absurd rfl h1
  | some sk =>
   obtain ⟨q, -⟩ := hsk sk rfl
   rcases h2 with h2 | h2
   ·rw [h2]; exact (Array.getElem?_eq_some_iff.1 q.1).1
   ·exact own_lt q.2 h2
theorem WS.keep {D : Nat → Prop} {w0 : World} {S C : Nat} {tv : Value} {w w' : World} {bs : List UInt8} {n : Nat} {s : Option Snk} {o : Nat → Prop} (h : WS w0 S C tv w bs n s o) (hk : Keeps D w w') (hD : ∀ b, D b → ¬ o b) (h0 : ∀ b, D b → w0.heap.size ≤ b) : WS w0 S C tv w' bs n s o := by
 obtain ⟨v, gv, hC, hw, hsk, hvg, ho, hF, hge⟩ := h
 refine ⟨v, gv, hk.heap_some hC (fun h => hD _ h ((ho _).2 (.inl rfl))), hw.kept hk (fun b hb h => hD _ h ((ho _).2 (.inr (.inl hb)))), fun sk hs => ?_, hvg, ho, hF.trans hk (fun j h1 h2 => by have := h0 j h2; omega), hge⟩
 obtain ⟨q1, q2, q3, q4⟩ := hsk sk hs
 have hne : s ≠ none := by rw [hs]; simp
 exact ⟨q1.kept hk (fun h => hD _ h ((ho _).2 (.inr (.inr ⟨hne, .inl rfl⟩)))) (fun b hb h => hD _ h ((ho _).2 (.inr (.inr ⟨hne, .inr hb⟩)))), q2, q3, q4⟩
theorem WS.snk {w0 : World} {S C : Nat} {tv : Value} {w : World} {bs : List UInt8} {n : Nat} {s : Option Snk} {o : Nat → Prop} (h : WS w0 S C tv w bs n s o) : ∀ sk, s = some sk → ∃ gv, SnkAt w S tv gv sk := by
 obtain ⟨v, gv, hC, hw, hsk, -⟩ := h
 exact fun sk hs => ⟨gv, (hsk sk hs).1⟩
theorem WS.fr {w0 : World} {S C : Nat} {tv : Value} {w : World} {bs : List UInt8} {n : Nat} {s : Option Snk} {o : Nat → Prop} (h : WS w0 S C tv w bs n s o) : Fresh w0 w ∧ ∀ b, o b → w0.heap.size ≤ b := by
 obtain ⟨v, gv, hC, hw, hsk, hvg, ho, hF, hge⟩ := h
 exact ⟨hF, hge⟩
theorem wide_depth : Fence.wide.depth = none := rfl
theorem wide_fn (f : FuncId) : Fence.wide.fn f = True := rfl
theorem WErr.kept2 {aS : Addr} {D : Nat → Prop} {W W' : World} {e : WEnd} {v : Value} {n : Nat} (h : WErr aS e v n W) (hk : Keeps D W W')
 (hD : ∀ a x, D a → W.heap[a]? ≠ some (.cells x 125 (0, 0)) ∧ W.heap[a]? ≠ some (.cells x 297 (0, 0))) : WErr aS e v n W' := by
 cases e with
 | fine => exact h
 | sink =>
  obtain ⟨a, h2, h3⟩ := h
  exact ⟨a, h2, hk.heap_some h3 (fun h => (hD a _ h).1 h3)⟩
 | write =>
  obtain ⟨a, c, x, h2, h3, h4⟩ := h
  exact ⟨a, c, x, h2, hk.heap_some h3 (fun h => (hD a _ h).1 h3), hk.heap_some h4 (fun h => (hD c _ h).2 h4)⟩
theorem WErr.form {aS : Addr} {W : World} {e : WEnd} {v : Value} {n : Nat} (h : WErr aS e v n W) (he : e ≠ .fine) : ∃ a, v = .iface 124 (.pointer (some ⟨a, 0, none⟩)) := by
 cases e with
 | fine => exact absurd rfl he
 | sink => obtain ⟨a, h2, -⟩ := h; exact ⟨a, h2⟩
 | write => obtain ⟨a, c, x, h2, -⟩ := h; exact ⟨a, h2⟩
theorem load_int {w : World} {a : Addr} {v : Value} (h : w.cell? a = some v) : (loadVar 3 a).run Tryz.prog w = .ok v w := by go_simp
theorem load_err {w : World} {a : Addr} {v : Value} (h : w.cell? a = some v) : (loadVar 75 a).run Tryz.prog w = .ok v w := by go_simp
theorem cells_ne {W : World} {a : Nat} {c x : Array Value} {t u : TypeId} (h : W.heap[a]? = some (.cells c t (0, 0))) (hne : t ≠ u) : W.heap[a]? ≠ some (.cells x u (0, 0)) := fun h2 => by
 rw [h] at h2
 injection h2 with h2
 injection h2 with _ h2 _
 exact hne h2
theorem loop_ne {W : World} {a : Nat} {r : Loop} {x : Array Value} {u : TypeId} (h : W.heap[a]? = some (.loop r)) : W.heap[a]? ≠ some (.cells x u (0, 0)) := fun h2 => by
 rw [h] at h2
 cases h2
structure WA (Bw C l D R0 R1 : Nat) (rec : Loop) (w : World) : Prop where
 bw : w.heap[Bw]? = some (.cells #[.pointer (some ⟨C, 0, none⟩)] 109 (0, 0))
 l : w.heap[l]? = some (.loop rec)
 d : w.heap[D]? = some (.deferred (some []))
 r0 : w.heap[R0]? = some (.cells #[.int .i64 0] 3 (0, 0))
 r1 : w.heap[R1]? = some (.cells #[.nilIface] 75 (0, 0))
def WO (Bw l D R0 R1 : Nat) (b : Nat) : Prop := b = Bw ∨ b = l ∨ b = D ∨ b = R0 ∨ b = R1
theorem WA.keep {Bw C l D R0 R1 : Nat} {rec : Loop} {E : Nat → Prop} {w w' : World} (h : WA Bw C l D R0 R1 rec w) (hk : Keeps E w w') (hE : ∀ b, E b → ¬ WO Bw l D R0 R1 b) : WA Bw C l D R0 R1 rec w' :=
 ⟨hk.heap_some h.bw (fun h => hE _ h (.inl rfl)), hk.heap_some h.l (fun h => hE _ h (.inr (.inl rfl))), hk.heap_some h.d (fun h => hE _ h (.inr (.inr (.inl rfl)))), hk.heap_some h.r0 (fun h => hE _ h (.inr (.inr (.inr (.inl rfl))))), hk.heap_some h.r1 (fun h => hE _ h (.inr (.inr (.inr (.inr rfl)))))⟩
theorem WA.lt {Bw C l D R0 R1 : Nat} {rec : Loop} {w : World} (h : WA Bw C l D R0 R1 rec w) : ∀ b, WO Bw l D R0 R1 b → b < w.heap.size := by
 rintro b (h1 | h1 | h1 | h1 | h1) <;> rw [h1]
 ·exact (Array.getElem?_eq_some_iff.1 h.bw).1
 ·exact (Array.getElem?_eq_some_iff.1 h.l).1
 ·exact (Array.getElem?_eq_some_iff.1 h.d).1
 ·exact (Array.getElem?_eq_some_iff.1 h.r0).1
 ·exact (Array.getElem?_eq_some_iff.1 h.r1).1
theorem WA.ne {Bw C l D R0 R1 : Nat} {rec : Loop} {w : World} (h : WA Bw C l D R0 R1 rec w) : Bw ≠ l ∧ l ≠ D ∧ R0 ≠ l ∧ R1 ≠ l ∧ R0 ≠ R1 ∧ Bw ≠ R0 ∧ Bw ≠ R1 ∧ D ≠ R0 ∧ D ≠ R1 ∧ D ≠ Bw := by
 have q : ∀ {a b : Nat} {x y : Obj}, w.heap[a]? = some x → w.heap[b]? = some y → x ≠ y → a ≠ b := fun h1 h2 h3 e => by
  subst e; rw [h1] at h2; exact h3 (Option.some.inj h2)
 refine ⟨q h.bw h.l (by simp), q h.l h.d (by simp), q h.r0 h.l (by simp), q h.r1 h.l (by simp), q h.r0 h.r1 ?_, q h.bw h.r0 ?_, q h.bw h.r1 ?_, q h.d h.r0 (by simp), q h.d h.r1 (by simp), q h.d h.bw (by simp)⟩
 all_goals (intro e; injection e with e1 e2 e3; revert e2; decide)
def wsT (s0 : Option Snk) (L : List Ev) : WEnd × List UInt8 × Nat × Option Snk := wst (L.map htm) [] 0 s0
def WJ (w0 : World) (S C Bw l D R0 R1 : Nat) (tv : Value) (rec : Loop) (s0 : Option Snk) (w : World) (L : List Ev) (o : Nat → Prop) : Prop :=
 (wsT s0 L).1 = .fine ∧ WA Bw C l D R0 R1 rec w ∧ ∃ oj, WS w0 S C tv w (wsT s0 L).2.1 (wsT s0 L).2.2.1 (wsT s0 L).2.2.2 oj ∧ (∀ b, o b ↔ (oj b ∨ WO Bw l D R0 R1 b)) ∧ ∀ b, oj b → ¬ WO Bw l D R0 R1 b
def WX (aS : Addr) (w0 : World) (S C Bw l D R0 R1 : Nat) (tv : Value) (rec : Loop) (s0 : Option Snk) (w : World) (L : List Ev) (o : Nat → Prop) : Prop :=
 (wsT s0 L).1 ≠ .fine ∧ ∃ ev oj, WErr aS (wsT s0 L).1 ev (wsT s0 L).2.2.1 w ∧ WS w0 S C tv w (wsT s0 L).2.1 (wsT s0 L).2.2.1 (wsT s0 L).2.2.2 oj ∧ w.heap[l]? = some (.loop { rec with state := .done, pending := some .ret }) ∧ w.heap[D]? = some (.deferred (some [])) ∧
  w.heap[R0]? = some (.cells #[.int .i64 (wsT s0 L).2.2.1] 3 (0, 0)) ∧ w.heap[R1]? = some (.cells #[ev] 75 (0, 0)) ∧ (∀ b, o b ↔ (oj b ∨ WO Bw l D R0 R1 b)) ∧ ∀ b, oj b → ¬ WO Bw l D R0 R1 b
theorem WJ.lt {w0 : World} {S C Bw l D R0 R1 : Nat} {tv : Value} {rec : Loop} {s0 : Option Snk} {w : World} {L : List Ev} {o : Nat → Prop} (h : WJ w0 S C Bw l D R0 R1 tv rec s0 w L o) : ∀ b, o b → b < w.heap.size := by
 obtain ⟨-, hA, oj, hw, ho, -⟩ := h
 intro b hb
 rcases (ho b).1 hb with h1 | h1
 ·exact hw.lt b h1
 ·exact hA.lt b h1
theorem WJ.keep {w0 : World} {S C Bw l D R0 R1 : Nat} {tv : Value} {rec : Loop} {s0 : Option Snk} {E : Nat → Prop} {w w' : World} {L : List Ev} {o : Nat → Prop} (h : WJ w0 S C Bw l D R0 R1 tv rec s0 w L o) (hk : Keeps E w w') (hE : ∀ b, E b → ¬ o b) (h0 : ∀ b, E b → w0.heap.size ≤ b) :
 WJ w0 S C Bw l D R0 R1 tv rec s0 w' L o := by
 obtain ⟨hf, hA, oj, hw, ho, hd⟩ := h
 exact ⟨hf, hA.keep hk (fun b hb h => hE b hb ((ho b).2 (.inr h))), oj, hw.keep hk (fun b hb h => hE b hb ((ho b).2 (.inl h))) h0, ho, hd⟩
theorem wsT_snoc {s0 : Option Snk} {L : List Ev} (h : (wsT s0 L).1 = .fine) (x : Ev) : wsT s0 (L ++ [x]) = drain 16 ((wsT s0 L).2.1 ++ htm x).length ((wsT s0 L).2.1 ++ htm x) (wsT s0 L).2.2.1 (wsT s0 L).2.2.2 := by
 unfold wsT at h ⊢
 rw [List.map_append, List.map_cons, List.map_nil]
 exact wst_snoc (htm x) _ _ _ _ h
theorem wsT_bd {s0 : Option Snk} {L : List Ev} (hq : SnkQ 0 s0) (h : (wsT s0 L).1 = .fine) : SnkQ (wsT s0 L).2.2.1 (wsT s0 L).2.2.2 ∧ (wsT s0 L).2.2.1 + (wsT s0 L).2.1.length = (htms L).length := by
 have := wst_q (L.map htm) [] 0 s0 hq h
 refine ⟨this.1, ?_⟩
 unfold wsT
 rw [this.2]
 simp [htms, List.flatMap]
theorem snkP_of {n B : Nat} {b : List UInt8} {s : Option Snk} (h : SnkQ n s) (hb : n + b.length ≤ B) : SnkP B b s := fun sk hs => by
 obtain ⟨h1, h2, h3, h4⟩ := h sk hs
 exact ⟨by omega, h2, h3, h4⟩
theorem htms_le {T L r : List Ev} {x : Ev} (h : L ++ x :: r = T) : (htms L).length + (htm x).length ≤ (htms T).length := by
 subst h
 simp [htms]
end Go.Proofs.YtbioecifiogffaaGreatDoor
