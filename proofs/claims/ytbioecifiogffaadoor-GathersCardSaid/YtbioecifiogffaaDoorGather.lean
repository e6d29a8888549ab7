/- plain.Gather: what comes of a source, told; and without a source. Conditions: texts and lists of at most 2^20 elements; the listed variables read as the text lays them. -/
import Derived.Test.YtbioecifiogffaaDoorOf
namespace Go.Proofs.YtbioecifiogffaaDoor
open Go.RowKit

theorem IntsAt.kept {D : Nat → Prop} {w w' : World} {v : Value} {l : List Int} (h : IntsAt w v l) (hk : Keeps D w w') (hD : ∀ j, j < w.heap.size → ¬ D j) : IntsAt w' v l := by
  obtain ⟨ao, cap, rfl, h1, h2, h3⟩ := h
  refine ⟨ao, cap, rfl, h1, h2, fun hne => ?_⟩
  obtain ⟨b, off, rfl, hc⟩ := h3 hne
  exact ⟨b, off, rfl, fun j hj => hk.cell_some (hc j hj) (hD _ (World.block_lt_of_cell? w _ (hc j hj)))⟩

theorem comeGo_err (fa : Int) (wt : Bool) : ∀ (f k : Nat) (rest all : List UInt8) (idle : Nat) (cuts : List Int), (comeGo fa wt f k rest all idle cuts).err = 0 ∨ (comeGo fa wt f k rest all idle cuts).err = 1 ∨ (comeGo fa wt f k rest all idle cuts).err = 2 ∨ (comeGo fa wt f k rest all idle cuts).err = 4 := by
  intro f
  induction f with
  | zero => intro k rest all idle cuts; left; rfl
  | succ f ih =>
    intro k rest all idle cuts
    rw [comeGo_succ]
    repeat' split
    all_goals first | exact ih _ _ _ _ _ | simp

theorem comeL_err (t : List UInt8) (cuts : List Int) (fa : Int) (wt : Bool) : (comeL t cuts fa wt).err = 0 ∨ (comeL t cuts fa wt).err = 1 ∨ (comeL t cuts fa wt).err = 2 ∨ (comeL t cuts fa wt).err = 4 := comeGo_err _ _ _ _ _ _ _ _

/-- Of, where the error came of reading. -/
theorem Of_come (aL aI aS : Addr) (w : World) (v : Value) (code n : Nat) (h : LaidVars aL aI aS w) (he : ErrIs aL aI aS w v code n) (hc : code = 0 ∨ code = 1 ∨ code = 2 ∨ code = 4) :
    Calls Tryd.prog 19 #[v] w fun e w' => e = .returned (.agg #[.int .i64 code, .int .i64 n]) ∧ Fresh w w' := by
  rcases he with ⟨rfl, rfl, rfl⟩ | ⟨rfl, rfl, rfl⟩ | ⟨rfl, rfl, rfl⟩ | ⟨rfl, _⟩ | ⟨rfl, a, c, x, rfl, ha, _⟩ | ⟨rfl, _⟩
  · exact Of_nil w
  · exact Of_long aL aI aS w h
  · exact Of_idle aL aI aS w h
  · omega
  · exact Of_read aL aI aS a c n w h ha
  · omega

set_option maxHeartbeats 1000000 in
theorem All_nil (w : World) : Calls Tryd.prog 35 #[.nilIface] w fun e w' => e = .returned (.tuple #[.string ⟨#[]⟩, .nilIface]) ∧ w = w' := by
  have hnn : (binOp .eql 69 .nilIface .nilIface).run Tryd.prog w = .ok (.bool true) w := by kernel_rfl
  go_enter Tryd.func35, Tryd.ntmps35
  go_wp2_with fail
  go_ret2
  exact ⟨rfl, rfl⟩
set_option maxHeartbeats 1000000 in
theorem proseGather (v : Value) (w : World) (R : Ending → World → Prop) (hR : Calls Tryd.prog 35 #[v] w fun e w' => ∃ x y, e = .returned (.tuple #[x, y]) ∧ R (.returned (.tuple #[x, y])) w') :
    Calls Tryd.prog 18 #[v] w R := by
  have HR := Lib.hid hR
  clear hR
  go_enter Tryd.func18, Tryd.ntmps18
  go_wp2_with fail
  refine HR.out.mono ?_
  rintro e w' ⟨x, y, rfl, h⟩
  go_wp2_with fail
  exact h

set_option maxHeartbeats 4000000 in
set_option maxRecDepth 1000000 in
theorem Gather_none (x : Array Value) (hx : x.size = 4) (w : World) :
    Calls Tryd.prog 9 #[.agg x, .bool true] w fun e w' => e = .returned (.tuple #[.string ⟨#[]⟩, .agg #[.int .i64 0, .int .i64 0], .int .i64 0]) ∧ Fresh w w' := by
  obtain ⟨x0, x1, x2, x3, rfl⟩ : ∃ a b c d, x = #[a, b, c, d] := by
    obtain ⟨l⟩ := x
    match l, hx with
    | [a, b, c, d], _ => exact ⟨a, b, c, d, rfl⟩
  go_enter Tryd.func9, Tryd.ntmps9
  go_upto_region 2 with fail
  refine name_world fun W hW => ?_
  have hF : Fresh w W := by rw [hW]; exact ((Keeps.refl _ w).alloc _).alloc _
  have hsz : W.heap.size = w.heap.size + 2 := by rw [hW]; simp
  have r0 : W.cell? ⟨w.heap.size + 1, 0, none⟩ = some (.int .i64 0) := by rw [hW]; simp
  have r1 : W.cell? ⟨w.heap.size + 1, 1, none⟩ = some (.int .i64 0) := by rw [hW]; simp
  have f0 : W.frozen? ⟨w.heap.size + 1, 0, none⟩ = false := by rw [hW]; simp
  have f1 : W.frozen? ⟨w.heap.size + 1, 1, none⟩ = false := by rw [hW]; simp
  have HS := Lib.hid hsz
  have HF := Lib.hid hF
  clear hW hsz hF
  go_wp2_with fail
  refine proseGather _ _ _ ?_
  refine (All_nil W).mono ?_
  rintro e w2 ⟨rfl, rfl⟩
  refine ⟨_, _, rfl, ?_⟩
  go_wp2_with fail
  refine (Of_nil W).mono ?_
  rintro e w3 ⟨rfl, hkp⟩
  have t0 := hkp.cell_some r0 (fun h => h)
  have t1 := hkp.cell_some r1 (fun h => h)
  have u0 := (hkp.frozen (p := ⟨w.heap.size + 1, 0, none⟩) (by rw [HS.out]; simp) (fun h => h)).trans f0
  have u1 := (hkp.frozen (p := ⟨w.heap.size + 1, 1, none⟩) (by rw [HS.out]; simp) (fun h => h)).trans f1
  have HK := Lib.hid hkp
  clear hkp r0 r1 f0 f1
  go_wp2_with fail
  refine bodyPost_ret (v := .tuple #[.string ⟨#[]⟩, .agg #[.int .i64 0, .int .i64 0], .int .i64 0]) (by simp [results, Tryd.results9, go_sem, *]) rfl ⟨rfl, ?_⟩
  exact ((HF.out.tr HK.out).setCell (p := ⟨w.heap.size + 1, 0, none⟩) (fun h => by simp at h; omega) _).setCell (p := ⟨w.heap.size + 1, 1, none⟩) (fun h => by simp at h; omega) _

set_option maxHeartbeats 4000000 in
set_option maxRecDepth 1000000 in
theorem Gather_any (aL aI aS : Addr) (s : ByteArray) (v : Value) (cs : List Int) (fa : Int) (wt : Bool) (w : World) (hL : LaidVars aL aI aS w) (hgl : 4 ≤ w.heap.size) (hv : IntsAt w v cs) (hs : s.size ≤ 1048576) (hl : cs.length ≤ 1048576) (hw : ∀ x ∈ cs, -9223372036854775808 ≤ x ∧ x ≤ 9223372036854775807) :
    Calls Tryd.prog 9 #[.agg #[.string s, v, .int .i64 fa, .bool wt], .bool false] w fun e w' =>
      e = .returned (.tuple #[.string ⟨(comeL s.data.toList cs fa wt).text.toArray⟩, .agg #[.int .i64 (comeL s.data.toList cs fa wt).err, .int .i64 (comeL s.data.toList cs fa wt).n], .int .i64 (comeL s.data.toList cs fa wt).reads]) ∧ Fresh w w' := by
  obtain ⟨ao, cap, hve⟩ := hv.form
  have herr := comeL_err s.data.toList cs fa wt
  obtain ⟨T, hT⟩ : ∃ T, T = comeL s.data.toList cs fa wt := ⟨_, rfl⟩
  rw [← hT] at herr ⊢
  obtain ⟨W, hW⟩ : ∃ W, W = (w.alloc (.cells #[.string s, v, .int .i64 fa, .bool wt] 25)).alloc (.cells #[.int .i64 0, .int .i64 0] 28) := ⟨_, rfl⟩
  have hF : Fresh w W := by rw [hW]; exact ((Keeps.refl _ w).alloc _).alloc _
  have hsz : W.heap.size = w.heap.size + 2 := by rw [hW]; simp
  have c0 : W.cell? ⟨w.heap.size, 0, none⟩ = some (.string s) := by rw [hW]; simp
  have c1 : W.cell? ⟨w.heap.size, 1, none⟩ = some v := by rw [hW]; simp
  have c2 : W.cell? ⟨w.heap.size, 2, none⟩ = some (.int .i64 fa) := by rw [hW]; simp
  have c3 : W.cell? ⟨w.heap.size, 3, none⟩ = some (.bool wt) := by rw [hW]; simp
  have r0 : W.cell? ⟨w.heap.size + 1, 0, none⟩ = some (.int .i64 0) := by rw [hW]; simp
  have r1 : W.cell? ⟨w.heap.size + 1, 1, none⟩ = some (.int .i64 0) := by rw [hW]; simp
  have f0 : W.frozen? ⟨w.heap.size + 1, 0, none⟩ = false := by rw [hW]; simp
  have f1 : W.frozen? ⟨w.heap.size + 1, 1, none⟩ = false := by rw [hW]; simp
  have hsrc := source_any s v cs fa wt W (hv.kept hF (fun _ _ h => h)) hl
  have HSRC := Lib.hid hsrc
  have HW := Lib.hid hw
  have HL := Lib.hid hL
  have HT := Lib.hid hT
  have HE := Lib.hid herr
  have HS := Lib.hid hsz
  have HF := Lib.hid hF
  clear hsrc hw hL hT herr hsz hF hv
  subst hve
  go_enter Tryd.func9, Tryd.ntmps9
  go_upto_region 4 with fail
  rw [← hW]
  clear hW
  go_wp2_with (go_at_call 20; refine HSRC.out.mono ?_)
  rintro e w1 ⟨b, g, rfl, hsr, hf1, hb, hg1, hg2⟩
  go_wp2_with fail
  refine proseGather _ _ _ ?_
  refine (All_any aL aI aS b g s cs fa wt w1 hsr hg2 hs hl HW.out (HL.out.fresh (HF.out.tr hf1)).long (HL.out.fresh (HF.out.tr hf1)).idle (by have := HS.out; simp; omega) (by have := HS.out; simp; omega)).mono ?_
  rintro e w2 ⟨ev, rfl, herr, hrd, hk2⟩
  refine ⟨_, _, rfl, ?_⟩
  have hL2 : LaidVars aL aI aS w2 := by
    have h1 := HL.out.fresh (HF.out.tr hf1)
    have hb0 := HS.out
    refine h1.kept hk2 (fun j h => by omega) ?_ ?_ ?_
    · obtain ⟨c, t, h⟩ := HL.out.b0; have := (Array.getElem?_eq_some_iff.1 h).1; omega
    · obtain ⟨c, t, h⟩ := HL.out.b1; have := (Array.getElem?_eq_some_iff.1 h).1; omega
    · obtain ⟨c, t, h⟩ := HL.out.b2; have := (Array.getElem?_eq_some_iff.1 h).1; omega
  have hk02 : Keeps (fun k => W.heap.size ≤ k) W w2 := (hf1.mono (fun _ _ h => h.elim)).trans hk2 (fun j h1 h2 => by omega)
  have q0 := hk02.cell_some r0 (by have := HS.out; simp; omega)
  have q1 := hk02.cell_some r1 (by have := HS.out; simp; omega)
  have g0 := (hk02.frozen (p := ⟨w.heap.size + 1, 0, none⟩) (by rw [HS.out]; simp) (by have := HS.out; simp; omega)).trans f0
  have g1 := (hk02.frozen (p := ⟨w.heap.size + 1, 1, none⟩) (by rw [HS.out]; simp) (by have := HS.out; simp; omega)).trans f1
  have hof := Of_come aL aI aS w2.drew ev T.err T.n ⟨hL2.long, hL2.idle, hL2.sink, hL2.etype, hL2.n01, hL2.n02, hL2.n12, hL2.b0, hL2.b1, hL2.b2⟩ (by rw [HT.out]; exact herr) HE.out
  have hrd2 : w2.cell? ⟨b, 4, none⟩ = some (.int .i64 T.reads) := by rw [HT.out]; exact hrd
  have hfin : Fresh w w2 := HF.out.trans hk02 (fun j h1 h2 => by have := HS.out; omega)
  have hs2 : w.heap.size + 1 < w2.heap.size := by have := HS.out; have := hk02.size; omega
  have hne1 : ¬ w.heap.size + 1 = b := by have := HS.out; omega
  have hne2 : ¬ b = w.heap.size + 1 := by have := HS.out; omega
  have HOF := Lib.hid hof
  have HFIN := Lib.hid hfin
  rw [← show T = comeL s.data.toList cs fa wt from HT.out]
  clear hof hfin hL2 herr hrd hk2 hk02 hsr hf1 c0 c1 c2 c3 r0 r1 f0 f1
  go_wp2_with fail
  go_region_held3 (fun w' => w'.cell? ⟨b, 4, none⟩ = some (.int .i64 T.reads))
    (first | go_keep | (refine hkp.cell_some ?_ (fun h => h); assumption) | (refine (((Keeps.refl (fun k => k = w.heap.size + 1) _).setCell (p := ⟨w.heap.size + 1, 0, none⟩) (fun _ => rfl) _).setCell (p := ⟨w.heap.size + 1, 1, none⟩) (fun _ => rfl) _).cell_some ?_ hne2; assumption))
    ((go_at_call 19; refine HOF.out.mono ?_; rintro e w3 ⟨rfl, hkp⟩; have t0 := hkp.cell_some q0 (fun h => h); have t1 := hkp.cell_some q1 (fun h => h); have u0 := (hkp.frozen (p := ⟨w.heap.size + 1, 0, none⟩) hs2 (fun h => h)).trans g0; have u1 := (hkp.frozen (p := ⟨w.heap.size + 1, 1, none⟩) hs2 (fun h => h)).trans g1))
  all_goals
    go_wp2_with fail
    refine bodyPost_ret (v := .tuple #[.string ⟨T.text.toArray⟩, .agg #[.int .i64 T.err, .int .i64 T.n], .int .i64 T.reads]) (by simp [results, Tryd.results9, go_sem, *]) rfl ⟨rfl, ?_⟩
    exact ((HFIN.out.trans (D' := fun _ => False) ⟨hkp.os, hkp.tape, hkp.output, hkp.size, hkp.block⟩ (fun _ _ h => h.elim)).setCell (p := ⟨w.heap.size + 1, 0, none⟩) (fun h => by simp at h; omega) _).setCell (p := ⟨w.heap.size + 1, 1, none⟩) (fun h => by simp at h; omega) _
end Go.Proofs.YtbioecifiogffaaDoor
