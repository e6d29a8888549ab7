/- (*finder).code: fenced code. Condition: no more than 2^24 bytes. -/
import Derived.Test.YtbioecifiogffaaDoorBlkLeaf
import Derived.Test.YtbioecifiogffaaDoorBuild
import Derived.ScopeJumps
import Derived.WalkMore
namespace Go.Proofs.YtbioecifiogffaaDoor
open Go.RowKit

/-- A scope whose label is jumped to once, forward. -/
theorem wp_scope_once {P : Program} {a : Act} {w : World} {Q : Exit → Act → World → Prop} {c tail : Code} (l : Nat) (J : Act → World → Prop) (hf : findLabel c l = some (.seq .skip tail))
    (pass : ∀ a w, J a w → tail.wp P (Exit.jump l (fun _ _ => False) Q) a w)
    (first : (∀ a w, J a w → tail.wp P (Exit.jump l J Q) a w) → c.wp P (Exit.jump l J Q) a w) : (Code.scope c).wp P Q a w := by
  have hm : ∀ (J' : Act → World → Prop) a w, J a w → tail.wp P (Exit.jump l J' Q) a w := fun J' a w h => wp_mono (pass a w h) (by
    intro e a' w' hq
    cases e with
    | goto l' => exact hq.2.elim
    | normal => exact hq
    | exit id => exact hq
    | ret => exact hq
    | panic ch => exact hq
    | outgrown => exact hq)
  exact wp_scope_jumps l J (fun _ _ => 0) hf (first (hm J)) (fun a w h => wp_seq (wp_skip (hm _ a w h)))

/-- The builder's row lies where it lies, or nowhere. -/
theorem BIs.low {w : World} {b g : Nat} {bs : List Value} (h : BIs w b g bs) : ∃ g', BIs w b g' bs ∧ g' < w.heap.size ∧ (g' = g ∨ g' = b) := by
  have hlt := h.lt
  obtain ⟨p, v, hb, hp, hr⟩ := h
  rcases hr.1.2 with ⟨h0, h1⟩ | ⟨g', cap, cur, hv, hbg, hgg, rest⟩
  · exact ⟨b, ⟨p, v, hb, hp, hr.1, fun k hk => by rw [h0] at hk; cases hk⟩, hlt, .inr rfl⟩
  · have e1 : g' = g := hr.2 g' (by rw [hv]; rfl)
    subst e1
    exact ⟨g', ⟨p, v, hb, hp, hr⟩, (Array.getElem?_eq_some_iff.1 hgg).1, .inl rfl⟩

theorem Keeps.after {D : Nat → Prop} {a b c : World} (h : Fresh a b) (hk : Keeps D b c) : Keeps D a c := (h.mono (fun _ _ h => h.elim) : Keeps D a b).tr hk
theorem mvx_of {D o o' : Nat → Prop} {a b c : World} (h : Keeps D a b) (m : Mv o o' b c) : MvX D o o' a c :=
  ⟨(h.mono (fun _ _ h => .inr h)).tr (m.1.mono (fun _ _ h => .inl h)), fun j hj => by
    rcases m.2 j hj with h1 | h1
    · exact .inl h1
    · exact .inr (Nat.le_trans h.size h1)⟩
section
variable {k : Nat} {caps : Array Value} {R : List EvL} {F : World → List EvL → (Nat → Prop) → Prop}

set_option maxHeartbeats 2000000 in
set_option maxRecDepth 100000 in
theorem code1_any (E : EmitOK k caps R F) (C d B2 B5 gb : Nat) (s : List UInt8) (w : World) (L : List EvL) (o : Nat → Prop) (h : Fnd w C (fnV k caps) d) (hF : F w L o) (hR : ∃ rest, L ++ txE s false ++ rest = R)
    (h2 : w.heap[B2]? = some (.cells #[.pointer (some ⟨C, 0, none⟩)] 122 (0, 0))) (h5 : BIs w B5 gb (Lib.byteCells s)) (ng : ¬ o gb) (nC : gb ≠ C) (n2 : gb ≠ B2) :
    Calls Tryd.prog 112 #[.pointer (some ⟨B2, 0, none⟩), .pointer (some ⟨B5, 0, none⟩)] w (DoOK F (fun j => j = gb) (fun _ _ => True) L (txE s false) w o) := by
  have c2 : w.cell? ⟨B2, 0, none⟩ = some (.pointer (some ⟨C, 0, none⟩)) := by rw [Lib.cell_of_heap h2]; rfl
  have hst := fun (W : World) (hW : Fresh w W) => Builder_String B5 gb s W (h5.kept hW (fun h => h) (fun _ h => h))
  have htx := fun (W : World) (hW : Keeps (fun j => j = gb) w W) => text_any E C d ⟨s.toArray⟩ false W L o (hW.heap_some h (fun e => nC e.symm)) (E.keep hF hW (fun b hb => by rw [hb]; exact ng)) hR
  have c2k := fun (W : World) (hW : Keeps (fun j => j = gb) w W) => (hW.cell_some c2 (fun e => n2 e.symm) : W.cell? ⟨B2, 0, none⟩ = some (.pointer (some ⟨C, 0, none⟩)))
  have HST := Lib.hid hst
  have HTX := Lib.hid htx
  have HCK := Lib.hid c2k
  clear hst htx c2k h2 h5 hF hR h E
  go_enter Tryd.func112, Tryd.ntmps112
  refine wp_last (fun a wx => a.defers = [] ∧ ∃ o1, F wx (L ++ txE s false) o1 ∧ MvX (fun j => j = gb) o o1 w wx) ?_ ?_
  · go_region_with (first
      | (go_at_call 54; refine (HST.out _ (by repeat (first | exact Keeps.refl _ _ | refine Keeps.drew ?_ | refine Keeps.drewN ?_ _))).mono ?_; rintro e w' ⟨rfl, hk1⟩; have hk2 : Keeps (fun j => j = gb) w w' := Keeps.after (by repeat (first | exact Keeps.refl _ _ | refine Keeps.drew ?_ | refine Keeps.drewN ?_ _)) hk1; have c2' := HCK.out _ hk2)
      | (go_at_call 95; refine (HTX.out _ (by first | assumption | exact Keeps.drew (by assumption) | exact Keeps.drewN (by assumption) _)).mono ?_; rintro e w3 ⟨rfl, o1, hF1, hm1⟩))
    all_goals exact ⟨rfl, o1, hF1, mvx_of (by first | assumption | exact Keeps.drew (by assumption) | exact Keeps.drewN (by assumption) _) hm1⟩
  · rintro a' w' ⟨hd, o1, hF1, hm1⟩
    exact ⟨hd, .tuple #[], results_none rfl _ _ _, rfl, o1, hF1, hm1, trivial⟩

/-- What stands at the label. -/
def ShutAt (w : World) (C : Nat) (vl : Value) (l : List Ln) (X : List UInt8) (Y : List Ln) (a : Act) (wx : World) : Prop :=
  ∃ (N gb : Nat) (x0 x3 x4 u7 u8 u9 u10 u11 u12 u13 u14 u15 u16 u17 u18 u19 u20 u21 u22 u23 u24 u25 u26 u27 u28 u29 u30 u31 u32 u33 u34 u35 u36 u37 u38 u39 u40 u41 u42 : Value), a = { tmps := #[x0, vl, .pointer (some ⟨w.heap.size, 0, none⟩), x3, x4, .pointer (some ⟨w.heap.size + 1, 0, none⟩), .int .i64 N, u7, u8, u9, u10, u11, u12, u13, u14, u15, u16, u17, u18, u19, u20, u21, u22, u23, u24, u25, u26, u27, u28, u29, u30, u31, u32, u33, u34, u35, u36, u37, u38, u39, u40, u41, u42], defers := [] } ∧
    1 ≤ N ∧ N ≤ l.length ∧ l.drop N = Y ∧ BIs wx (w.heap.size + 1) gb (Lib.byteCells X) ∧ w.heap.size + 1 ≤ gb ∧ Fresh w wx ∧ wx.heap[w.heap.size]? = some (.cells #[.pointer (some ⟨C, 0, none⟩)] 122 (0, 0))
theorem byteCells_len (l : List UInt8) : (Lib.byteCells l).length = l.length := by simp [Lib.byteCells]

set_option maxHeartbeats 8000000 in
set_option maxRecDepth 100000 in
theorem code_any (E : EmitOK k caps R F) (C d g : Nat) (v : Value) (s0 : Ln) (t : List Ln) (w : World) (L : List EvL) (o : Nat → Prop) (h : Fnd w C (fnV k caps) d) (hv : LnAt w g v (s0 :: t)) (hF : F w L o) (hC : ¬ o C) (hg : ¬ o g ∧ g ≠ C)
    (hL : tot (s0 :: t) ≤ 16777216) (hR : ∃ rest, L ++ leafE 5 0 (fnc t).1 false ++ rest = R) :
    Calls Tryd.prog 87 #[.pointer (some ⟨C, 0, none⟩), v] w (StepOK F g L (leafE 5 0 (fnc t).1 false) (fnc t).2 o w) := by
  obtain ⟨rest, hR⟩ := hR
  have hmf : ∀ (fn : Fn) (first cap : Array Value) (w : World), (Instr.makeFunc fn first cap).run Tryd.prog w = .ok (.func fn first cap) w := fun _ _ _ _ => rfl
  obtain ⟨cap, off, rfl, h1, h2, -⟩ := hv.line (j := 0) (s := s0) rfl
  have hft := fnc_tot t
  have htc := tot_cons s0 t
  have hlen := tot_len (s0 :: t)
  have h0 : ([] : List UInt8) ++ (fnc ((s0 :: t).drop 1)).1 = (fnc t).1 ∧ (fnc ((s0 :: t).drop 1)).2 = (fnc t).2 := ⟨rfl, rfl⟩
  obtain ⟨X, hX⟩ : ∃ X, (fnc t).1 = X := ⟨_, rfl⟩
  obtain ⟨Y, hY⟩ : ∃ Y, (fnc t).2 = Y := ⟨_, rfl⟩
  rw [hX, hY] at h0 hft
  have hXb : X.length ≤ 16777216 := by omega
  rw [hX] at hR ⊢
  rw [hY]
  obtain ⟨W, hW⟩ : ∃ W, (w.alloc (.cells #[.pointer (some ⟨C, 0, none⟩)] 122)).alloc (.cells #[.pointer none, .slice none 0 0] 96) = W := ⟨_, rfl⟩
  have hFW : Fresh w W := by rw [← hW]; exact ((Keeps.refl _ _).alloc _).alloc _
  have t2 : W.heap[w.heap.size]? = some (.cells #[.pointer (some ⟨C, 0, none⟩)] 122 (0, 0)) := by
    rw [← hW, Below.heap_alloc _ _ _ (by simp)]
    exact heap_alloc_new w _
  have t5 : BIs W (w.heap.size + 1) (w.heap.size + 1) (Lib.byteCells []) := by
    rw [← hW]
    have := BIs.fresh (w.alloc (.cells #[.pointer (some ⟨C, 0, none⟩)] 122)) (w.heap.size + 1)
    rw [show (w.alloc (.cells #[.pointer (some ⟨C, 0, none⟩)] 122)).heap.size = w.heap.size + 1 by simp] at this
    exact this
  have hlt := E.lt hF
  have hCw : C < w.heap.size := World.block_lt_of_cell? w ⟨C, 0, none⟩ h.cells.1
  have H0 := Lib.hid h0
  have HV := Lib.hid hv
  have HF := Lib.hid hF
  have HE := Lib.hid E
  have HR := Lib.hid hR
  have HLT := Lib.hid hlt
  have H := Lib.hid h
  have HFW := Lib.hid hFW
  have HT2 := Lib.hid t2
  have HT5 := Lib.hid t5
  clear h0 hv hF E hR hlt h hX hY hFW t2 t5 htc
  generalize hl : s0 :: t = l at *
  have hl1 : 1 ≤ l.length := by rw [← hl]; simp
  clear hl
  go_enter Tryd.func87, Tryd.ntmps87
  go_wp2
  refine wp_scope_once 0 (ShutAt w C (.slice (some ⟨g, off, none⟩) l.length cap) l X Y) rfl ?_ ?_
  · clear hW
    rintro a2 wx ⟨N, gb0, x0, x3, x4, u7, u8, u9, u10, u11, u12, u13, u14, u15, u16, u17, u18, u19, u20, u21, u22, u23, u24, u25, u26, u27, u28, u29, u30, u31, u32, u33, u34, u35, u36, u37, u38, u39, u40, u41, u42, rfl, hN1, hN, hNY, hB, hgb, hFx, t2⟩
    obtain ⟨gb, hB, hgl, hgc⟩ := hB.low
    have hgb1 : w.heap.size + 1 ≤ gb := by omega
    have c2 : wx.cell? ⟨w.heap.size, 0, none⟩ = some (.pointer (some ⟨C, 0, none⟩)) := by rw [Lib.cell_of_heap t2]; rfl
    have n2 : ¬ o w.heap.size := fun h => by have := HLT.out _ h; omega
    have ngb : ¬ o gb := fun h => by have := HLT.out _ h; omega
    have hfd := H.out.fresh hFx
    have n5 : ¬ o (w.heap.size + 1) := fun h => by have := HLT.out _ h; omega
    have hdo : ∀ (w1 : World) (o1 : Nat → Prop), F w1 (L ++ [((⟨5, false, 0, []⟩, false) : EvL)]) o1 → Mv o o1 wx w1 → Calls Tryd.prog 112 #[.pointer (some ⟨w.heap.size, 0, none⟩), .pointer (some ⟨w.heap.size + 1, 0, none⟩)] w1 (DoOK F (fun j => j = gb) (fun _ _ => True) (L ++ [((⟨5, false, 0, []⟩, false) : EvL)]) (txE X false) w1 o1) := fun w1 o1 hF1 hm1 =>
      code1_any HE.out C d w.heap.size (w.heap.size + 1) gb X w1 _ o1 (hm1.heap hfd hC) hF1 ⟨_, by rw [← HR.out]; unfold leafE; simp only [List.append_assoc, List.cons_append, List.nil_append]; rfl⟩ (hm1.heap t2 n2) (hB.kept hm1.1 n5 (fun _ => ngb)) (hm1.not hgl ngb) (by omega) (by omega)
    have hwi := within_any HE.out (fun j => j = gb) (fun _ _ => True) C d ⟨5, false, 0, []⟩ 112 #[.pointer (some ⟨w.heap.size, 0, none⟩), .pointer (some ⟨w.heap.size + 1, 0, none⟩)] (txE X false) wx L o hfd (HE.out.fresh HF.out hFx) hC (fun j h => ⟨by omega, by omega⟩) ⟨rest, by rw [← HR.out]; simp [leafE]⟩ (enters_of Tryd.func112 (by kernel_rfl) rfl) hdo
    unfold evV fnV at hwi
    have hvx := HV.out.fresh hFx
    have HWI := Lib.hid hwi
    have HVX := Lib.hid hvx
    have HFX := Lib.hid hFx
    have HNY := Lib.hid hNY
    clear hwi hdo t2 hfd hvx hFx hNY hB hgc
    have hN2 : (N : Int) ≤ (l.length : Int) := by omega
    go_wp2_with fail
    refine HWI.out.mono ?_
    rintro e w4 ⟨rfl, _, _, o', -, -, hF4, hm4⟩
    have hm5 : Mv o o' w w4 := by
      refine ⟨(HFX.out.mono (fun _ _ h => h.elim) : Keeps o w wx).trans hm4.1 (fun j hj hd => hd.resolve_right (fun h => by omega)), fun j hj => ?_⟩
      · rcases hm4.2 j hj with h1 | h1
        · exact .inl h1
        · exact .inr (Nat.le_trans HFX.out.size h1)
    have hv4 : LnAt w4 g _ l := HVX.out.keeps hm4.1 (fun hne => by
      have := HV.out.lt hne
      rintro (h | h)
      · exact hg.1 h
      · omega)
    have hv5 := hv4.cutv N hN (m := l.length - N) rfl
    rw [HNY.out] at hv5
    have HM5 := Lib.hid hm5
    clear hm4 hv4 hm5
    by_cases hcap : cap = N
    · subst hcap
      rw [if_pos rfl, Nat.sub_self, show l.length - cap = 0 by omega] at hv5
      have HV5 := Lib.hid hv5
      clear hv5
      go_wp2
      simp only [Exit.jump]
      go_ret
      exact ⟨_, o', rfl, HV5.out, hF4, HM5.out⟩
    · rw [if_neg hcap] at hv5
      have HV5 := Lib.hid hv5
      clear hv5
      go_wp2
      simp only [Exit.jump]
      go_ret
      exact ⟨_, o', rfl, HV5.out, hF4, HM5.out⟩
  · intro hT
    have HT := Lib.hid hT
    clear hT
    go_wp2
    clear hW
    go_loopw [6] (fun n wr => ∃ (j gb : Nat) (acc : List UInt8), n = .int .i64 j ∧ 1 ≤ j ∧ j ≤ l.length ∧ BIs wr (w.heap.size + 1) gb (Lib.byteCells acc) ∧ w.heap.size + 1 ≤ gb ∧ Fresh w wr ∧ wr.heap[w.heap.size]? = some (.cells #[.pointer (some ⟨C, 0, none⟩)] 122 (0, 0)) ∧ acc ++ (fnc (l.drop j)).1 = X ∧ (fnc (l.drop j)).2 = Y) (fun n _ => l.length - (intOf n).toNat)
    case atStart => exact ⟨1, _, [], rfl, Nat.le_refl _, hl1, HT5.out, Nat.le_refl _, HFW.out, HT2.out, H0.out.1, H0.out.2⟩
    case round =>
      obtain ⟨j, gb, acc, rfl, hj1, hj, hB, hgb, hFr, t2, hx, hy⟩ := hrel
      by_cases hlt : j < l.length
      · obtain ⟨s, hs, hd⟩ := line_at hlt
        obtain ⟨cap', off', he, -, -, hcell⟩ := (HV.out.fresh hFr).line hs
        cases he
        obtain ⟨S, hS, hSl, hSs⟩ := mk_of s
        rw [hS] at hcell
        have hst : s.length ≤ 16777216 := by have := tot_drop l j; rw [hd, tot_cons] at this; omega
        have hcp := fun W : World => Tryd.strings_CutPrefix S ⟨#[96, 96, 96]⟩ W
        rw [hSl, show (⟨#[96, 96, 96]⟩ : ByteArray).data.toList = [96, 96, 96] from rfl, isFen_pre] at hcp
        rw [hd] at hx hy
        have hacc : acc.length + s.length + 1 ≤ X.length ∨ (isFen s && blank (s.drop 3)) = true := by
          cases hb : (isFen s && blank (s.drop 3)) with
          | true => exact .inr rfl
          | false =>
            left
            rw [← hx]
            unfold fnc
            rw [hb]
            simp
            omega
        unfold fnc at hx hy
        obtain ⟨A, hA, hAl, hAs⟩ := mk_of (Lib.trimPrefix s [96, 96, 96])
        rw [hA] at hcp
        have hAe : isFen s = true → A.data.toList = s.drop 3 := fun h => by
          rw [hAl]
          unfold Lib.trimPrefix
          rw [isFen_pre, h]
          rfl
        have hAsz : A.size ≤ s.length := by
          rw [hAs]
          unfold Lib.trimPrefix
          split <;> simp
        have hem := fun W : World => empty_any A W (by omega)
        have HCP := Lib.hid hcp
        have HEM := Lib.hid hem
        have HFR := Lib.hid hFr
        have HT2 := Lib.hid t2
        have HB := Lib.hid hB
        have HSL := Lib.hid hSl
        have HSS := Lib.hid hSs
        clear hcp hem hFr t2 hB hA hAl hAs hS hs hd
        by_cases hend : (isFen s && blank (s.drop 3)) = true
        · rw [if_pos hend] at hx hy
          obtain ⟨hf, hbk⟩ := Bool.and_eq_true_iff.1 hend
          rw [hAe hf, hbk] at HEM
          rw [hf] at HCP
          have HX := Lib.hid hx
          have HY := Lib.hid hy
          clear hx hy hend hf hbk hAe hacc hSs hSl
          go_wp2_with fail
          refine (HCP.out _).mono ?_
          rintro e w5 ⟨rfl, rfl⟩
          go_wp2_with fail
          refine (HEM.out _).mono ?_
          rintro e w6 ⟨rfl, hk6⟩
          have HK6 := Lib.hid hk6
          clear hk6
          go_wp2
          go_step3
          refine ⟨rfl, j + 1, gb, _, _, _, _, _, _, _, _, _, _, _, _, _, _, _, _, _, _, _, _, _, _, _, _, _, _, _, _, _, _, _, _, _, _, _, _, _, _, _, rfl, by omega, by omega, HY.out, ?_, hgb, HFR.out.tr HK6.out, HK6.out.heap_some HT2.out (fun h => h)⟩
          have := HX.out
          rw [List.append_nil] at this
          rw [← this]
          exact HB.out.kept HK6.out (fun h => h) (fun _ h => h)
        · rw [if_neg hend] at hx hy
          have hwi := Builder_WriteString (w.heap.size + 1) gb (Lib.byteCells acc) S
          have hacc2 : acc.length + s.length + 1 ≤ X.length := hacc.resolve_right hend
          have hx2 : (acc ++ s ++ [10]) ++ (fnc (l.drop (j + 1))).1 = X := by rw [← hx]; simp
          have HX := Lib.hid hx2
          have HY := Lib.hid hy
          have HWI := Lib.hid hwi
          clear hx hx2 hy hacc hwi
          have hacl : acc.length + S.size + 1 ≤ 33554432 := by have := HSS.out; omega
          cases hf : isFen s with
          | true =>
            rw [hf, Bool.true_and] at hend
            have hbk : blank (s.drop 3) = false := by simpa using hend
            rw [hAe hf, hbk] at HEM
            rw [hf] at HCP
            clear hend hf hbk hAe hSs hSl hAsz hst
            go_wp2_with fail
            refine (HCP.out _).mono ?_
            rintro e w5 ⟨rfl, rfl⟩
            go_wp2_with fail
            refine (HEM.out _).mono ?_
            rintro e w6 ⟨rfl, hk6⟩
            have hcell6 := hk6.cell_some hcell (fun h => h)
            have HK6 := Lib.hid hk6
            have hB6 := HB.out.kept hk6 (fun h => h) (fun _ h => h)
            have hwi := HWI.out w6 hB6 (by rw [byteCells_len]; omega)
            have HWI6 := Lib.hid hwi
            clear hk6 hB6 hwi hcell
            go_wp2_with fail
            refine HWI6.out.mono ?_
            rintro e w7 ⟨rfl, gb7, hB7, hg7, hk7⟩
            have hs6 := HK6.out.size
            have hs7 := hk7.size
            have hsr := HFR.out.size
            have hsr2 := HB.out.lt
            have hB7' : BIs w7 (w.heap.size + 1) gb7 (Lib.byteCells (acc ++ s)) := by
              have e1 : Lib.byteCells (acc ++ s) = Lib.byteCells acc ++ Lib.strCells S := by rw [Lib.byteCells_append, ← HSL.out]; rfl
              rw [e1]
              exact hB7
            have hF7 : Fresh w w7 := (HFR.out.tr HK6.out).trans hk7 (fun j hj hd => by omega)
            have ht7 := hk7.heap_some (HK6.out.heap_some HT2.out (fun h => h)) (fun hd => by omega)
            have hwb := Builder_WriteByte (w.heap.size + 1) gb7 _ 10 w7 hB7' (by rw [byteCells_len, List.length_append]; have := HSS.out; omega)
            have HWB := Lib.hid hwb
            have HF7 := Lib.hid hF7
            have HT7 := Lib.hid ht7
            clear hB7 hk7 hB7' hF7 ht7 hwb hcell6
            go_wp2_with fail
            refine HWB.out.mono ?_
            rintro e w8 ⟨rfl, gb8, hB8, hg8, hk8⟩
            have hs7' := HF7.out.size
            have hB8' : BIs w8 (w.heap.size + 1) gb8 (Lib.byteCells (acc ++ s ++ [10])) := by rw [Lib.byteCells_append]; exact hB8
            have hF8 : Fresh w w8 := HF7.out.trans hk8 (fun j hj hd => by omega)
            have ht8 := hk8.heap_some HT7.out (fun hd => by omega)
            have HB8 := Lib.hid hB8'
            have HF8 := Lib.hid hF8
            have HT8 := Lib.hid ht8
            have hg9 : w.heap.size + 1 ≤ gb8 := by omega
            clear hB8 hk8 hB8' hF8 ht8
            go_wp2
            go_roundw
            case rel => exact ⟨j + 1, gb8, _, by go_num, by omega, by omega, HB8.out, hg9, HF8.out, HT8.out, HX.out, HY.out⟩
            case measure => simp [intOf]; omega
          | false =>
            rw [hf] at HCP
            clear hend hf hAe hSs hSl hAsz hst
            go_wp2_with fail
            refine (HCP.out _).mono ?_
            rintro e w5 ⟨rfl, rfl⟩
            have hwi := HWI.out w5 HB.out (by rw [byteCells_len]; omega)
            have HWI6 := Lib.hid hwi
            clear hwi
            go_wp2_with fail
            refine HWI6.out.mono ?_
            rintro e w7 ⟨rfl, gb7, hB7, hg7, hk7⟩
            have hs7 := hk7.size
            have hsr := HFR.out.size
            have hsr2 := HB.out.lt
            have hB7' : BIs w7 (w.heap.size + 1) gb7 (Lib.byteCells (acc ++ s)) := by
              have e1 : Lib.byteCells (acc ++ s) = Lib.byteCells acc ++ Lib.strCells S := by rw [Lib.byteCells_append, ← HSL.out]; rfl
              rw [e1]
              exact hB7
            have hF7 : Fresh w w7 := HFR.out.trans hk7 (fun j hj hd => by omega)
            have ht7 := hk7.heap_some HT2.out (fun hd => by omega)
            have hwb := Builder_WriteByte (w.heap.size + 1) gb7 _ 10 w7 hB7' (by rw [byteCells_len, List.length_append]; have := HSS.out; omega)
            have HWB := Lib.hid hwb
            have HF7 := Lib.hid hF7
            have HT7 := Lib.hid ht7
            clear hB7 hk7 hB7' hF7 ht7 hwb hcell
            go_wp2_with fail
            refine HWB.out.mono ?_
            rintro e w8 ⟨rfl, gb8, hB8, hg8, hk8⟩
            have hs7' := HF7.out.size
            have hB8' : BIs w8 (w.heap.size + 1) gb8 (Lib.byteCells (acc ++ s ++ [10])) := by rw [Lib.byteCells_append]; exact hB8
            have hF8 : Fresh w w8 := HF7.out.trans hk8 (fun j hj hd => by omega)
            have ht8 := hk8.heap_some HT7.out (fun hd => by omega)
            have HB8 := Lib.hid hB8'
            have HF8 := Lib.hid hF8
            have HT8 := Lib.hid ht8
            have hg9 : w.heap.size + 1 ≤ gb8 := by omega
            clear hB8 hk8 hB8' hF8 ht8
            go_wp2
            go_roundw
            case rel => exact ⟨j + 1, gb8, _, by go_num, by omega, by omega, HB8.out, hg9, HF8.out, HT8.out, HX.out, HY.out⟩
            case measure => simp [intOf]; omega
      · have hje : j = l.length := by omega
        rw [hje, List.drop_length] at hx hy
        have hx2 : acc = X := by simpa [fnc] using hx
        have hy2 : ([] : List Ln) = Y := hy
        have HX := Lib.hid hx2
        have HY := Lib.hid hy2
        have HB := Lib.hid hB
        have HFR := Lib.hid hFr
        have HT2 := Lib.hid t2
        clear hx hy hx2 hy2 hB hFr t2
        go_wp2
        go_step3
        go_step
        go_step
        refine HT.out _ _ ⟨j, gb, _, _, _, _, _, _, _, _, _, _, _, _, _, _, _, _, _, _, _, _, _, _, _, _, _, _, _, _, _, _, _, _, _, _, _, _, _, _, _, rfl, hj1, hj, by rw [← HY.out, hje, List.drop_length], by rw [← HX.out]; exact HB.out, hgb, HFR.out, HT2.out⟩
end
end Go.Proofs.YtbioecifiogffaaDoor
