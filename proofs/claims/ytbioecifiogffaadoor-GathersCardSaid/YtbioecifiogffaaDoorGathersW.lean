/- proselaw.Gathers returns true at every input: the walk. Conditions: the listed variables read as the text lays them. -/
import Derived.Test.YtbioecifiogffaaDoorGather
namespace Go.Proofs.YtbioecifiogffaaDoor
open Go.RowKit

theorem two_set {w : World} {m : Nat} {x y : Value} (h0 : w.cell? ⟨m, 0, none⟩ = some x) (h1 : w.cell? ⟨m, 1, none⟩ = some y) (a b : Value) :
    ((w.setCell ⟨m, 0, none⟩ a).setCell ⟨m, 1, none⟩ b).cell? ⟨m, 0, none⟩ = some a ∧ ((w.setCell ⟨m, 0, none⟩ a).setCell ⟨m, 1, none⟩ b).cell? ⟨m, 1, none⟩ = some b := by
  obtain ⟨c, t, fr, hc⟩ : ∃ c t fr, w.heap[m]? = some (.cells c t fr) := by
    simp only [World.cell?] at h0
    split at h0
    · rename_i c t fr he
      exact ⟨c, t, fr, he⟩
    · cases h0
  have k0 : c[0]? = some x := by rw [Lib.cell_of_heap hc] at h0; exact h0
  have k1 : c[1]? = some y := by rw [Lib.cell_of_heap hc] at h1; exact h1
  have l0 := (Array.getElem?_eq_some_iff.1 k0).1
  have l1 := (Array.getElem?_eq_some_iff.1 k1).1
  have hh := heap_set (i := 1) (heap_set (i := 0) hc a) b
  constructor
  · rw [Lib.cell_of_heap hh]; simp [Array.getElem?_setIfInBounds, l0]
  · rw [Lib.cell_of_heap hh]; simp [Array.getElem?_setIfInBounds, l1]

/-- Four cells of a block. -/
def Box4 (W : World) (b : Nat) (x0 x1 x2 x3 : Value) : Prop := W.cell? ⟨b, 0, none⟩ = some x0 ∧ W.cell? ⟨b, 1, none⟩ = some x1 ∧ W.cell? ⟨b, 2, none⟩ = some x2 ∧ W.cell? ⟨b, 3, none⟩ = some x3
theorem Box4.kept {D : Nat → Prop} {w w' : World} {b : Nat} {x0 x1 x2 x3 : Value} (h : Box4 w b x0 x1 x2 x3) (hk : Keeps D w w') (hb : ¬ D b) : Box4 w' b x0 x1 x2 x3 :=
  ⟨hk.cell_some h.1 hb, hk.cell_some h.2.1 hb, hk.cell_some h.2.2.1 hb, hk.cell_some h.2.2.2 hb⟩

set_option maxHeartbeats 4000000 in
set_option maxRecDepth 1000000 in
theorem Gathers_any (aL aI aS : Addr) (s : ByteArray) (v : Value) (cs : List Int) (fa : Int) (wt : Bool) (w : World) (hL : LaidVars aL aI aS w) (hgl : 4 ≤ w.heap.size) (hv : IntsAt w v cs) (hsm : s.size ≤ maxLen) (hlm : cs.length ≤ maxLen) (hw : ∀ x ∈ cs, -9223372036854775808 ≤ x ∧ x ≤ 9223372036854775807) :
    Calls Tryd.prog 4 #[.agg #[.string s, v, .int .i64 fa, .bool wt]] w fun e w' => e = .returned (.bool true) ∧ Fresh w w' := by
  obtain ⟨ao, cap, hve⟩ := hv.form
  by_cases hfit : s.size ≤ 1048576 ∧ cs.length ≤ 1048576
  · obtain ⟨hs, hl⟩ := hfit
    have hfitc : ∀ W : World, Fresh w W → Calls Tryd.prog 8 #[.agg #[.string s, v, .int .i64 fa, .bool wt]] W fun e w' => e = .returned (.bool true) ∧ Fresh W w' := fun W hF => by
      have := fit_any s v cs fa wt W (hv.kept hF (fun _ _ h => h)) hsm hlm
      rw [decide_eq_true ⟨hs, hl⟩] at this
      exact this
    have hnone : ∀ W : World, Calls Tryd.prog 9 #[.agg #[.string s, v, .int .i64 fa, .bool wt], .bool true] W fun e w' => e = .returned (.tuple #[.string ⟨#[]⟩, .agg #[.int .i64 0, .int .i64 0], .int .i64 0]) ∧ Fresh W w' := fun W => Gather_none _ rfl W
    have hga : ∀ W : World, Fresh w W → _ := fun W hF => Gather_any aL aI aS s v cs fa wt W (hL.fresh hF) (Nat.le_trans hgl hF.size) (hv.kept hF (fun _ _ h => h)) hs hl hw
    have hco : ∀ W : World, Fresh w W → _ := fun W hF => come_any s v cs fa wt W (hv.kept hF (fun _ _ h => h)) hs hl hw
    generalize comeL s.data.toList cs fa wt = T at *
    subst hve
    obtain ⟨W, hW⟩ : ∃ W, W = w.alloc (.cells #[.string s, .slice ao cs.length cap, .int .i64 fa, .bool wt] 25) := ⟨_, rfl⟩
    have hF : Fresh w W := by rw [hW]; exact (Keeps.refl _ w).alloc _
    have hsz : W.heap.size = w.heap.size + 1 := by rw [hW]; simp
    have c0 : W.cell? ⟨w.heap.size, 0, none⟩ = some (.string s) := by rw [hW]; simp
    have c1 : W.cell? ⟨w.heap.size, 1, none⟩ = some (.slice ao cs.length cap) := by rw [hW]; simp
    have c2 : W.cell? ⟨w.heap.size, 2, none⟩ = some (.int .i64 fa) := by rw [hW]; simp
    have c3 : W.cell? ⟨w.heap.size, 3, none⟩ = some (.bool wt) := by rw [hW]; simp
    have C : Box4 W w.heap.size (.string s) (.slice ao cs.length cap) (.int .i64 fa) (.bool wt) := ⟨c0, c1, c2, c3⟩
    have HFIT := Lib.hid hfitc
    have HNONE := Lib.hid hnone
    have HGA := Lib.hid hga
    have HCO := Lib.hid hco
    have HS := Lib.hid hsz
    have HF := Lib.hid hF
    clear hfitc hnone hga hco hsz hF hL hv hw
    go_enter Tryd.func4, Tryd.ntmps4
    go_upto_region 1 with fail
    rw [← hW]
    clear hW
    go_wp2_with fail
    refine (HFIT.out W HF.out).mono ?_
    rintro e w1 ⟨rfl, hk1⟩
    have h1 := HF.out.tr hk1
    have C1 := C.kept hk1 (fun h => h)
    obtain ⟨d0, d1, d2, d3⟩ := id C1
    have hs1 : w.heap.size + 1 ≤ w1.heap.size := by have := HS.out; have := hk1.size; omega
    have H1 := Lib.hid h1
    clear hk1 h1 c0 c1 c2 c3
    go_wp2_with fail
    refine (HNONE.out w1).mono ?_
    rintro e w2 ⟨rfl, hk2⟩
    have hs2 : w.heap.size < w2.heap.size := by have := hk2.size; omega
    have H2 := Lib.hid (Keeps.tr H1.out hk2)
    have C2 := C1.kept hk2 (fun h => h)
    clear hk2 d0 d1 d2 d3
    go_upto_region 7 with fail
    refine name_world fun X hX => ?_
    have hkX : Fresh w2 X := by rw [hX]; exact (Keeps.refl _ _).alloc _
    have t0 : X.cell? ⟨w2.heap.size, 0, none⟩ = some (.int .i64 0) := by rw [hX]; simp
    have t1 : X.cell? ⟨w2.heap.size, 1, none⟩ = some (.int .i64 0) := by rw [hX]; simp
    have f0 : X.frozen? ⟨w2.heap.size, 0, none⟩ = false := by rw [hX]; simp
    have f1 : X.frozen? ⟨w2.heap.size, 1, none⟩ = false := by rw [hX]; simp
    have hXs : X.heap.size = w2.heap.size + 1 := by rw [hX]; simp
    have C3 := C2.kept hkX (fun h => h)
    obtain ⟨d0, d1, d2, d3⟩ := id C3
    have hX0 := Keeps.tr H2.out hkX
    have hga := HGA.out X hX0
    have HX := Lib.hid hX0
    have HXS := Lib.hid hXs
    have HG := Lib.hid hga
    clear hX hkX C C1 C2 hX0 hXs hga
    go_wp2_with fail
    refine HG.out.mono ?_
    rintro e w3 ⟨rfl, hk3⟩
    have u0 := hk3.cell_some t0 (fun h => h)
    have u1 := hk3.cell_some t1 (fun h => h)
    have g0 := (hk3.frozen (p := ⟨w2.heap.size, 0, none⟩) (by rw [HXS.out]; simp) (fun h => h)).trans f0
    have g1 := (hk3.frozen (p := ⟨w2.heap.size, 1, none⟩) (by rw [HXS.out]; simp) (fun h => h)).trans f1
    obtain ⟨e0, e1, e2, e3⟩ := C3.kept hk3 (fun h => h)
    have C4 := C3.kept hk3 (fun h => h)
    have H3 := Lib.hid (Keeps.tr HX.out hk3)
    have hs3 : w2.heap.size + 1 ≤ w3.heap.size := by have := HXS.out; have := hk3.size; omega
    have hne : ¬ w2.heap.size = w.heap.size := by omega
    have hne2 : ¬ w.heap.size = w2.heap.size := by omega
    clear hk3 t0 t1 f0 f1 d0 d1 d2 d3
    go_upto_region 8 with fail
    refine name_world fun Y hY => ?_
    have hkY : Keeps (fun k => k = w2.heap.size) w3 Y := by rw [hY]; exact ((Keeps.refl (fun k => k = w2.heap.size) w3).setCell (p := ⟨w2.heap.size, 0, none⟩) (fun _ => rfl) _).setCell (p := ⟨w2.heap.size, 1, none⟩) (fun _ => rfl) _
    have y0 : Y.cell? ⟨w2.heap.size, 0, none⟩ = some (.int .i64 T.err) := by rw [hY]; exact (two_set u0 u1 _ _).1
    have y1 : Y.cell? ⟨w2.heap.size, 1, none⟩ = some (.int .i64 T.n) := by rw [hY]; exact (two_set u0 u1 _ _).2
    obtain ⟨d0, d1, d2, d3⟩ := C4.kept hkY (by simpa using hne2)
    have hY0 : Fresh w Y := H3.out.trans hkY (fun j h1 h2 => by omega)
    have hco := HCO.out Y hY0
    have hs4 : w2.heap.size < Y.heap.size := by have := hkY.size; omega
    have HY := Lib.hid hY0
    have HC := Lib.hid hco
    clear hY hkY C3 C4 hY0 hco u0 u1 g0 g1 e0 e1 e2 e3
    go_wp2_with fail
    refine HC.out.mono ?_
    rintro e w5 ⟨rfl, hk5⟩
    have z0 : ∀ o, (w5.alloc o).cell? ⟨w2.heap.size, 0, none⟩ = some (.int .i64 T.err) := fun o => (hk5.alloc o).cell_some y0 (fun h => h)
    have z1 : ∀ o, (w5.alloc o).cell? ⟨w2.heap.size, 1, none⟩ = some (.int .i64 T.n) := fun o => (hk5.alloc o).cell_some y1 (fun h => h)
    have H5 := Lib.hid (Keeps.tr HY.out hk5)
    clear hk5 y0 y1 d0 d1 d2 d3
    go_wp2_with fail
    go_ret
    exact ⟨rfl, H5.out.alloc _⟩
  · have hfitc : ∀ W : World, Fresh w W → Calls Tryd.prog 8 #[.agg #[.string s, v, .int .i64 fa, .bool wt]] W fun e w' => e = .returned (.bool false) ∧ Fresh W w' := fun W hF => by
      have := fit_any s v cs fa wt W (hv.kept hF (fun _ _ h => h)) hsm hlm
      rw [decide_eq_false hfit] at this
      exact this
    subst hve
    have hf := hfitc (w.alloc (.cells #[.string s, .slice ao cs.length cap, .int .i64 fa, .bool wt] 25)) ((Keeps.refl _ w).alloc _)
    have HFIT := Lib.hid hf
    clear hfitc hf hL hv hw hfit
    go_enter Tryd.func4, Tryd.ntmps4
    go_wp2_with fail
    refine HFIT.out.mono ?_
    rintro e w1 ⟨rfl, hk1⟩
    have H1 := Lib.hid (Keeps.tr ((Keeps.refl (fun _ => False) w).alloc _) hk1)
    clear hk1
    go_wp2_with fail
    go_ret
    exact ⟨rfl, H1.out⟩
end Go.Proofs.YtbioecifiogffaaDoor
