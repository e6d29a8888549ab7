/- What is done with each event, as a function value that is not looked into; (*finder).text. Condition: what is told is the beginning of what shall be told. -/
import Derived.Test.YtbioecifiogffaaDoorBlkProg2
import Derived.Shelf.Abstract
import Derived.Defers
import Derived.Deep.DeepCutAuto
namespace Go.Proofs.YtbioecifiogffaaDoor
open Go.RowKit

def evV (e : Ev) : Value := .agg #[.int .i64 e.kind, .bool e.fin, .int .i64 e.level, .string ⟨e.text.toArray⟩]
/-- Function k with what it has captured takes events: F says what it has taken, and which blocks are its own. -/
structure EmitOK (k : Nat) (caps : Array Value) (R : List EvL) (F : World → List EvL → (Nat → Prop) → Prop) : Prop where
  enter : ∀ (args : Array Value) (w : World), (callFunc k args).run Tryd.prog w = .ok (.enter k args) w
  lt : ∀ {w : World} {L : List EvL} {o : Nat → Prop}, F w L o → ∀ b, o b → b < w.heap.size
  keep : ∀ {D : Nat → Prop} {w w' : World} {L : List EvL} {o : Nat → Prop}, F w L o → Keeps D w w' → (∀ b, D b → ¬ o b) → F w' L o
  call : ∀ (x : EvL) (w : World) (L : List EvL) (o : Nat → Prop), F w L o → (∃ rest, L ++ x :: rest = R) →
    Calls Tryd.prog k (#[evV x.1, .bool x.2] ++ caps) w fun e w' => e = .returned (.tuple #[]) ∧ ∃ o', F w' (L ++ [x]) o' ∧ Mv o o' w w'
theorem EmitOK.fresh {k : Nat} {caps : Array Value} {R : List EvL} {F : World → List EvL → (Nat → Prop) → Prop} (E : EmitOK k caps R F) {w w' : World} {L : List EvL} {o : Nat → Prop} (h : F w L o) (hk : Fresh w w') : F w' L o := E.keep h hk (fun _ h => h.elim)
/-- A function value. -/
def fnV (k : Nat) (caps : Array Value) : Value := .func (.func k) #[] caps

section
variable {k : Nat} {caps : Array Value} {R : List EvL} {F : World → List EvL → (Nat → Prop) → Prop}

set_option maxHeartbeats 2000000 in
set_option maxRecDepth 100000 in
theorem text_any (E : EmitOK k caps R F) (C d : Nat) (s : ByteArray) (lf : Bool) (w : World) (L : List EvL) (o : Nat → Prop) (h : Fnd w C (fnV k caps) d) (hF : F w L o) (hR : ∃ rest, L ++ txE s.data.toList lf ++ rest = R) :
    Calls Tryd.prog 95 #[.pointer (some ⟨C, 0, none⟩), .string s, .bool lf] w fun e w' => e = .returned (.tuple #[]) ∧ ∃ o', F w' (L ++ txE s.data.toList lf) o' ∧ Mv o o' w w' := by
  by_cases h0 : s.data.toList = []
  · have hq : s.toList = [] := by rw [ByteArray.toList_eq, h0]
    have he : txE s.data.toList lf = [] := by rw [h0]; rfl
    rw [he, List.append_nil]
    have HF := Lib.hid hF
    clear h0 he hF h hR
    go_enter Tryd.func95, Tryd.ntmps95
    go_wp2
    go_end0
    exact ⟨rfl, o, HF.out, Mv.refl _ _⟩
  · have hq : s.toList.isEmpty = false := by rw [ByteArray.toList_eq]; simpa using h0
    have hq2 : ¬ s.toList = [] := by rw [ByteArray.toList_eq]; exact h0
    have he : txE s.data.toList lf = [(⟨8, false, 0, s.data.toList⟩, lf)] := by unfold txE; rw [if_neg h0]
    rw [he] at hR ⊢
    obtain ⟨rest, hR⟩ := hR
    have hc := fun (W : World) (hW : F W L o) => E.call (⟨8, false, 0, s.data.toList⟩, lf) W L o hW ⟨rest, by rw [← hR]; simp⟩
    unfold evV at hc
    simp only [show (⟨s.data.toList.toArray⟩ : ByteArray) = s from rfl] at hc
    obtain ⟨c0, -⟩ := h.cells
    unfold fnV at c0
    have eg := E.enter
    have HC := Lib.hid hc
    have HF := Lib.hid hF
    clear h0 he hF h hR hc
    go_enter Tryd.func95, Tryd.ntmps95
    go_wp2_with fail
    refine (HC.out _ HF.out).mono ?_
    rintro e w2 ⟨rfl, o', hF', hm⟩
    have HF2 := Lib.hid hF'
    have HM2 := Lib.hid hm
    clear hF' hm
    go_wp2
    go_end0
    exact ⟨rfl, o', HF2.out, HM2.out⟩

/-- What lay in o or X may have turned; o' is what of o is left, and blocks that were not there. -/
def MvX (X o o' : Nat → Prop) (w w' : World) : Prop := Keeps (fun j => o j ∨ X j) w w' ∧ ∀ j, o' j → o j ∨ w.heap.size ≤ j
theorem MvX.of {X o o' : Nat → Prop} {w w' : World} (h : Mv o o' w w') : MvX X o o' w w' := ⟨h.1.mono (fun _ _ h => .inl h), h.2⟩
theorem MvX.trans {X o o' o'' : Nat → Prop} {a b c : World} (h : MvX X o o' a b) (h' : MvX X o' o'' b c) : MvX X o o'' a c :=
  ⟨h.1.trans h'.1 (fun j hj ho => by
    rcases ho with ho | ho
    · exact .inl ((h.2 j ho).resolve_right (by omega))
    · exact .inr ho), fun j hj => by
    rcases h'.2 j hj with h1 | h1
    · exact h.2 j h1
    · exact .inr (Nat.le_trans h.1.size h1)⟩
theorem Mv.heap {o o' : Nat → Prop} {w w' : World} (h : Mv o o' w w') {b : Nat} {x : Obj} (hb : w.heap[b]? = some x) (ho : ¬ o b) : w'.heap[b]? = some x := h.1.heap_some hb ho
theorem MvX.heap {X o o' : Nat → Prop} {w w' : World} (h : MvX X o o' w w') {b : Nat} {x : Obj} (hb : w.heap[b]? = some x) (ho : ¬ o b) (hX : ¬ X b) : w'.heap[b]? = some x := h.1.heap_some hb (fun h => h.elim ho hX)
theorem MvX.not {X o o' : Nat → Prop} {w w' : World} (h : MvX X o o' w w') {b : Nat} (hb : b < w.heap.size) (ho : ¬ o b) : ¬ o' b := fun h' => by
  rcases h.2 b h' with h1 | h1
  · exact ho h1
  · omega
theorem Mv.not {o o' : Nat → Prop} {w w' : World} (h : Mv o o' w w') {b : Nat} (hb : b < w.heap.size) (ho : ¬ o b) : ¬ o' b := fun h' => by
  rcases h.2 b h' with h1 | h1
  · exact ho h1
  · omega

/-- A statement that does not end otherwise than off its end. -/
theorem wp_calm {P : Program} {s : Code} {K : Act → World → Prop} {Q' : Exit → Act → World → Prop} {a : Act} {w : World} (h : s.wp P (Exit.then K (fun _ _ _ => False)) a w) : s.wp P (Exit.then K Q') a w := by
  refine wp_mono h ?_
  intro e a' w' hq
  cases e with
  | normal => exact hq
  | exit id => exact hq.elim
  | goto l => exact hq.elim
  | ret => exact hq.elim
  | panic ch => exact hq.elim
  | outgrown => exact hq.elim

theorem wp_last {P : Program} {s : Code} {Q : Exit → Act → World → Prop} {a : Act} {w : World} (R : Act → World → Prop) (h : s.wp P (Exit.then R (fun _ _ _ => False)) a w) (hR : ∀ a' w', R a' w' → Q .normal a' w') : s.wp P Q a w := by
  refine wp_mono h ?_
  intro e a' w' hq
  cases e with
  | normal => exact hR _ _ hq
  | exit id => exact hq.elim
  | goto l => exact hq.elim
  | ret => exact hq.elim
  | panic ch => exact hq.elim
  | outgrown => exact hq.elim

/-- What is done between a beginning and its end: M is told; blocks X may turn; Q holds then. -/
def DoOK (F : World → List EvL → (Nat → Prop) → Prop) (X : Nat → Prop) (Q : World → (Nat → Prop) → Prop) (L M : List EvL) (w : World) (o : Nat → Prop) (e : Ending) (w' : World) : Prop :=
  e = .returned (.tuple #[]) ∧ ∃ o', F w' (L ++ M) o' ∧ MvX X o o' w w' ∧ Q w' o'
/-- What within does: behind what was done only the end was told. -/
def WithinOK (F : World → List EvL → (Nat → Prop) → Prop) (X : Nat → Prop) (Q : World → (Nat → Prop) → Prop) (L M : List EvL) (w : World) (o : Nat → Prop) (e : Ending) (w' : World) : Prop :=
  e = .returned (.tuple #[]) ∧ ∃ w2 o2 o', Q w2 o2 ∧ MvX (fun j => j = w.heap.size + 1) o2 o' w2 w' ∧ F w' (L ++ M) o' ∧ MvX X o o' w w'

set_option maxHeartbeats 4000000 in
set_option maxRecDepth 100000 in
theorem within_end (E : EmitOK k caps R F) (C d B3 B4 : Nat) (ev : Ev) (u : FrameMode) (w : World) (L : List EvL) (o : Nat → Prop) (h : Fnd w C (fnV k caps) d) (hF : F w L o)
    (h3 : w.heap[B3]? = some (.cells #[.pointer (some ⟨C, 0, none⟩)] 122 (0, 0))) (h4 : w.heap[B4]? = some (.cells #[.int .i64 ev.kind, .bool ev.fin, .int .i64 ev.level, .string ⟨ev.text.toArray⟩] 84 (0, 0)))
    (n4 : ¬ o B4) (hR : ∃ rest, L ++ ({ ev with fin := true }, false) :: rest = R) :
    CallsD Tryd.prog 119 #[.pointer (some ⟨B4, 0, none⟩), .pointer (some ⟨B3, 0, none⟩)] u w fun e u' w' => u' = u ∧ e = .returned (.tuple #[]) ∧ ∃ o', F w' (L ++ [({ ev with fin := true }, false)]) o' ∧ MvX (fun j => j = B4) o o' w w' := by
  have eg := E.enter
  have hn34 : B3 ≠ B4 := by rintro rfl; have := h3.symm.trans h4; cases this
  have hnC4 : C ≠ B4 := by rintro rfl; have := h.symm.trans h4; cases this
  obtain ⟨W, hW⟩ : ∃ W, w.setCell ⟨B4, 1, none⟩ (.bool true) = W := ⟨_, rfl⟩
  have hK : Keeps (fun j => j = B4) w W := by rw [← hW]; exact Keeps.setCell (D := fun j => j = B4) (Keeps.refl _ w) (p := ⟨B4, 1, none⟩) (fun _ => rfl) _
  have h4' : W.heap[B4]? = some (.cells #[.int .i64 ev.kind, .bool true, .int .i64 ev.level, .string ⟨ev.text.toArray⟩] 84 (0, 0)) := by
    rw [← hW]; simp [World.setCell, Array.getElem?_modify, h4]
  have h3' := hK.heap_some h3 hn34
  have hfd := hK.heap_some h hnC4
  have b0 : w.cell? ⟨B4, 1, none⟩ = some (.bool ev.fin) := by rw [Lib.cell_of_heap h4]; rfl
  have b1 : w.frozen? ⟨B4, 1, none⟩ = false := Lib.frozen_of_heap h4 1
  have c3 : W.cell? ⟨B3, 0, none⟩ = some (.pointer (some ⟨C, 0, none⟩)) := by rw [Lib.cell_of_heap h3']; rfl
  have c40 : W.cell? ⟨B4, 0, none⟩ = some (.int .i64 ev.kind) := by rw [Lib.cell_of_heap h4']; rfl
  have c41 : W.cell? ⟨B4, 1, none⟩ = some (.bool true) := by rw [Lib.cell_of_heap h4']; rfl
  have c42 : W.cell? ⟨B4, 2, none⟩ = some (.int .i64 ev.level) := by rw [Lib.cell_of_heap h4']; rfl
  have c43 : W.cell? ⟨B4, 3, none⟩ = some (.string ⟨ev.text.toArray⟩) := by rw [Lib.cell_of_heap h4']; rfl
  have f0 : W.cell? ⟨C, 0, none⟩ = some (.func (.func k) #[] caps) := by rw [Lib.cell_of_heap hfd]; rfl
  have hFW := E.keep hF hK (fun b hb => by rw [hb]; exact n4)
  have hc := fun (W' : World) (hW' : Fresh W W') => E.call ({ ev with fin := true }, false) W' L o (E.fresh hFW hW') hR
  unfold evV at hc
  have HC := Lib.hid hc
  have HK := Lib.hid hK
  clear hc hFW hF hR E h h3 h4 h3' h4' hfd hK
  go_enter_d Tryd.func119, Tryd.ntmps119
  go_upto_region 1 with fail
  refine wp_last (fun a wx => a.defers = [] ∧ ∃ o1, F wx (L ++ [({ ev with fin := true }, false)]) o1 ∧ Mv o o1 W wx) ?_ ?_
  · go_region_with (go_at_fn k; refine (HC.out _ (by repeat (first | exact Keeps.refl _ _ | refine Keeps.drew ?_ | refine Keeps.drewN ?_ _))).mono ?_; rintro e w' ⟨rfl, o1, hF1, hm1⟩)
    all_goals (go_wp2_with fail; exact ⟨trivial, o1, hF1, (Mv.fresh (by repeat (first | exact Keeps.refl _ _ | refine Keeps.drew ?_ | refine Keeps.drewN ?_ _))).trans hm1⟩)
  · rintro a' w' ⟨hd, o1, hF1, hm1⟩
    refine ⟨hd, .tuple #[], results_none rfl _ _ _, rfl, o1, hF1, ?_, fun j hj => ?_⟩
    · exact (HK.out.mono (fun _ _ h => .inr h)).trans (hm1.1.mono (fun _ _ h => .inl h)) (fun _ _ h => h)
    · rcases hm1.2 j hj with h1 | h1
      · exact .inl h1
      · exact .inr (Nat.le_trans HK.out.size h1)

set_option maxHeartbeats 4000000 in
set_option maxRecDepth 100000 in
theorem within_any (E : EmitOK k caps R F) (X : Nat → Prop) (Q : World → (Nat → Prop) → Prop) (C d : Nat) (ev : Ev) (kd : Nat) (capsd : Array Value) (M : List EvL) (w : World) (L : List EvL) (o : Nat → Prop)
    (h : Fnd w C (fnV k caps) d) (hF : F w L o) (hC : ¬ o C) (hX : ∀ j, X j → j < w.heap.size ∧ j ≠ C) (hR : ∃ rest, L ++ (ev, false) :: (M ++ ({ ev with fin := true }, false) :: rest) = R)
    (ed : ∀ (args : Array Value) (w : World), (callFunc kd args).run Tryd.prog w = .ok (.enter kd args) w)
    (hdo : ∀ (w1 : World) (o1 : Nat → Prop), F w1 (L ++ [(ev, false)]) o1 → Mv o o1 w w1 → Calls Tryd.prog kd capsd w1 (DoOK F X Q (L ++ [(ev, false)]) M w1 o1)) :
    Calls Tryd.prog 93 #[.pointer (some ⟨C, 0, none⟩), evV ev, fnV kd capsd] w (WithinOK F X Q L ((ev, false) :: (M ++ [({ ev with fin := true }, false)])) w o) := by
  obtain ⟨rest, hR⟩ := hR
  have hmf : ∀ (fn : Fn) (first cap : Array Value) (w : World), (Instr.makeFunc fn first cap).run Tryd.prog w = .ok (.func fn first cap) w := fun _ _ _ _ => rfl
  have eg := E.enter
  unfold evV fnV
  obtain ⟨W, hW⟩ : ∃ W, (w.alloc (.cells #[.pointer (some ⟨C, 0, none⟩)] 122)).alloc (.cells #[.int .i64 ev.kind, .bool ev.fin, .int .i64 ev.level, .string ⟨ev.text.toArray⟩] 84) = W := ⟨_, rfl⟩
  have hFW : Fresh w W := by rw [← hW]; exact ((Keeps.refl _ _).alloc _).alloc _
  have hz : w.heap.size + 1 < W.heap.size := by rw [← hW]; simp
  have hlt := E.lt hF
  have t3 : W.heap[w.heap.size]? = some (.cells #[.pointer (some ⟨C, 0, none⟩)] 122 (0, 0)) := by
    rw [← hW, Below.heap_alloc _ _ _ (by simp)]
    exact heap_alloc_new w _
  have t4 : W.heap[w.heap.size + 1]? = some (.cells #[.int .i64 ev.kind, .bool ev.fin, .int .i64 ev.level, .string ⟨ev.text.toArray⟩] 84 (0, 0)) := by
    rw [← hW]
    have := heap_alloc_new (w.alloc (.cells #[.pointer (some ⟨C, 0, none⟩)] 122)) (.cells #[.int .i64 ev.kind, .bool ev.fin, .int .i64 ev.level, .string ⟨ev.text.toArray⟩] 84)
    simpa using this
  have hfW := h.fresh hFW
  have c3 : W.cell? ⟨w.heap.size, 0, none⟩ = some (.pointer (some ⟨C, 0, none⟩)) := by rw [Lib.cell_of_heap t3]; rfl
  have c40 : W.cell? ⟨w.heap.size + 1, 0, none⟩ = some (.int .i64 ev.kind) := by rw [Lib.cell_of_heap t4]; rfl
  have c41 : W.cell? ⟨w.heap.size + 1, 1, none⟩ = some (.bool ev.fin) := by rw [Lib.cell_of_heap t4]; rfl
  have c42 : W.cell? ⟨w.heap.size + 1, 2, none⟩ = some (.int .i64 ev.level) := by rw [Lib.cell_of_heap t4]; rfl
  have c43 : W.cell? ⟨w.heap.size + 1, 3, none⟩ = some (.string ⟨ev.text.toArray⟩) := by rw [Lib.cell_of_heap t4]; rfl
  have f0 : W.cell? ⟨C, 0, none⟩ = some (.func (.func k) #[] caps) := hfW.cells.1
  have hc := fun (W' : World) (hW' : Fresh W W') => E.call (ev, false) W' L o (E.fresh hF (hFW.tr hW')) ⟨_, hR⟩
  unfold evV at hc
  have HC := Lib.hid hc
  have HF := Lib.hid hF
  have HFW := Lib.hid hFW
  have HDO := Lib.hid hdo
  have HR := Lib.hid hR
  have HE := Lib.hid E
  have HX := Lib.hid hX
  have HLT := Lib.hid hlt
  have HT3 := Lib.hid t3
  have HT4 := Lib.hid t4
  have HFD := Lib.hid hfW
  have HFD0 := Lib.hid h
  clear hc hF hFW hdo hR E hX hlt t3 t4 hfW h
  go_enter_defers Tryd.func93, Tryd.ntmps93
  go_upto_region 1 with fail
  clear hW
  go_cut [0, 1, 2, 3, 4] from 5 to 14 (fun s0 s1 s2 s3 s4 wx => s2 = .func (.func kd) #[] capsd ∧ s3 = .pointer (some ⟨w.heap.size, 0, none⟩) ∧ s4 = .pointer (some ⟨w.heap.size + 1, 0, none⟩) ∧ ∃ o1, F wx (L ++ [(ev, false)]) o1 ∧ Mv o o1 W wx)
  case first =>
    refine wp_calm ?_
    go_region_with (go_at_fn k; refine (HC.out _ (by repeat (first | exact Keeps.refl _ _ | refine Keeps.drew ?_ | refine Keeps.drewN ?_ _))).mono ?_; rintro e w' ⟨rfl, o1, hF1, hm1⟩)
    all_goals (go_wp2_with fail; go_meet; exact ⟨rfl, rfl, rfl, o1, hF1, (Mv.fresh (by repeat (first | exact Keeps.refl _ _ | refine Keeps.drew ?_ | refine Keeps.drewN ?_ _))).trans hm1⟩)
  case rest =>
    obtain ⟨rfl, rfl, rfl, o1, hF1, hm1⟩ := hcut
    have hm0 : Mv o o1 w wc := (Mv.fresh HFW.out).trans hm1
    have n3 : ¬ o w.heap.size := fun h => by have := HLT.out _ h; omega
    have n4 : ¬ o (w.heap.size + 1) := fun h => by have := HLT.out _ h; omega
    have t3 := hm1.heap HT3.out n3
    have t4 := hm1.heap HT4.out n4
    have tf := hm1.heap HFD.out hC
    have hdo := HDO.out wc o1 hF1 hm0
    have HDO1 := Lib.hid hdo
    have HM0 := Lib.hid hm0
    have HM1 := Lib.hid hm1
    have HF1 := Lib.hid hF1
    have HT3 := Lib.hid t3
    have HT4 := Lib.hid t4
    have HTF := Lib.hid tf
    clear hdo hm0 hm1 hF1 t3 t4 tf
    go_wp2_with fail
    refine HDO1.out.mono ?_
    rintro e w2 ⟨rfl, o2, hF2, hm2, hQ⟩
    go_wp2
    refine leaves_cons (f := 119) (args := #[.pointer (some ⟨w.heap.size + 1, 0, none⟩), .pointer (some ⟨w.heap.size, 0, none⟩)]) (by simp) (by simp [go_sem]) ?_
    have n3c := HM1.out.not (by omega) n3
    have n4c := HM1.out.not (by omega) n4
    have nCc := HM0.out.not (World.block_lt_of_cell? w ⟨C, 0, none⟩ (by rw [Lib.cell_of_heap HFD0.out]; rfl)) hC
    have x3 : ¬ X w.heap.size := fun h => by have := (HX.out _ h).1; omega
    have x4 : ¬ X (w.heap.size + 1) := fun h => by have := (HX.out _ h).1; omega
    have xC : ¬ X C := fun h => (HX.out _ h).2 rfl
    have hs := HM1.out.1.size
    have htot : MvX X o o2 w w2 := (MvX.of HM0.out).trans hm2
    refine (within_end HE.out C d w.heap.size (w.heap.size + 1) ev .returning w2 (L ++ [(ev, false)] ++ M) o2 (hm2.heap HTF.out nCc xC) hF2 (hm2.heap HT3.out n3c x3) (hm2.heap HT4.out n4c x4) (hm2.not (by omega) n4c) ⟨rest, by rw [← HR.out]; simp⟩).mono ?_
    rintro e u' w3 ⟨rfl, rfl, o3, hF3, hm3⟩
    refine ⟨_, results_none rfl _ _ _, rfl, w2, o2, o3, hQ, hm3, ?_, ?_⟩
    · have e1 : L ++ [(ev, false)] ++ M ++ [({ ev with fin := true }, false)] = L ++ (ev, false) :: (M ++ [({ ev with fin := true }, false)]) := by simp
      rw [e1] at hF3
      exact hF3
    · refine ⟨htot.1.trans hm3.1 (fun j hj hd => ?_), fun j hj => ?_⟩
      · rcases hd with hd | hd
        · exact .inl ((htot.2 j hd).resolve_right (by omega))
        · omega
      · rcases hm3.2 j hj with h1 | h1
        · exact htot.2 j h1
        · exact .inr (Nat.le_trans htot.1.size h1)
end
end Go.Proofs.YtbioecifiogffaaDoor
