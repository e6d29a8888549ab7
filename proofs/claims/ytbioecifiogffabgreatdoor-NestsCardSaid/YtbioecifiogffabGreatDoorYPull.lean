/- prosekeep.pull: the events of what comes, and what is told of it. Conditions: texts and lists of at most 2^20 elements; the listed variables read as the text lays them. -/
import Derived.Test.YtbioecifiogffabGreatDoorR10
import Derived.Test.YtbioecifiogffabGreatDoorR9
set_option linter.unusedVariables false
set_option linter.unusedSimpArgs false
set_option maxHeartbeats 8000000
set_option maxRecDepth 1000000
namespace Go.Proofs.YtbioecifiogffabGreatDoor
open Go.RowKit
theorem comeE_len (c : ComeL) (h : c.text.length ≤ 1200) : (comeE c).length ≤ 5000 := by
 unfold comeE
 split
 ·have := evsF_len c.text; omega
 ·simp
theorem res_pull {fn : Func} {p1 p2 t2 : Nat} (h : fn.results = #[.tmp p1, .cell p2 t2]) {tmps : Array Value} {P : Program} {w : World} {a2 : Addr} {v1 v2 : Value} (h1 : tmps.getD p1 undef = v1) (h2 : tmps.getD p2 undef = .pointer (some a2))
 (l2 : (loadVar t2 a2).run P w = .ok v2 w) : (results fn tmps).run P w = .ok (.tuple #[v1, v2]) w := by
 have h1' : tmps[p1]?.getD undef = v1 := by simpa using h1
 have h2' : tmps[p2]?.getD undef = .pointer (some a2) := by simpa using h2
 simp [results, h, h1', h2', asAddr, l2, Sem.run_bind, Result.andThen]
theorem load_told {w : World} {B : Nat} {x y : Value} (h : w.heap[B]? = some (.cells #[x, y] 25 (0, 0))) : (loadVar 25 ⟨B, 0, none⟩).run Tryz.prog w = .ok (.agg #[x, y]) w := by
 have hi : (Tryz.prog.info? 25).map (·.size) = some 2 := by kernel_rfl
 rw [run_loadVar_row w _ _ _ _ _ _ h Tryz.underlying25 rfl hi]
theorem pull_any (aL aI aS : Addr) (w : World) (hV : LaidVars aL aI aS w) (hG : Gl w) (s : ByteArray) (v : Value) (cs : List Int) (fa : Int) (wt : Bool) (hv : IntsAt w v cs) (hs : s.size ≤ 1048576) (hl : cs.length ≤ 1048576) (hw : ∀ x ∈ cs, -9223372036854775808 ≤ x ∧ x ≤ 9223372036854775807) (c : ComeL) (hc : comeL s.data.toList cs fa wt = c) :
 Calls Tryz.prog 5 #[.agg #[.string s, v, .int .i64 fa, .bool wt]] w fun e w' => ∃ u, e = .returned (.tuple #[u, .agg #[.int .i64 c.err, .int .i64 c.n]]) ∧ Evs w' 33 u (comeE c) ∧ Fresh w w' := by
 have hct : c.text.length ≤ 1200 := by rw [← hc]; exact comeL_text _ _ _ _
 have hcl := comeE_len c hct
 obtain ⟨ao, cap, rfl⟩ := hv.form
 obtain ⟨W, hW⟩ : ∃ W, (w.alloc (.cells #[.string s, .slice ao cs.length cap, .int .i64 fa, .bool wt] 30)).alloc (.cells #[.int .i64 0, .int .i64 0] 25) = W := ⟨_, rfl⟩
 have hFW : Fresh w W := by rw [← hW]; exact ((Keeps.refl _ w).alloc _).alloc _
 have hzW : W.heap.size = w.heap.size + 2 := by rw [← hW]; simp
 have hin : W.heap[w.heap.size]? = some (.cells #[.string s, .slice ao cs.length cap, .int .i64 fa, .bool wt] 30 (0, 0)) := by rw [← hW]; exact (Lib.alloc_old _ _ _ (by simp)).trans (heap_alloc_new w _)
 have htl : W.heap[w.heap.size + 1]? = some (.cells #[.int .i64 0, .int .i64 0] 25 (0, 0)) := by rw [← hW, ← show (w.alloc (.cells #[.string s, .slice ao cs.length cap, .int .i64 fa, .bool wt] 30)).heap.size = w.heap.size + 1 from by simp]; exact heap_alloc_new _ _
 have c0 : W.cell? ⟨w.heap.size, 0, none⟩ = some (.string s) := by rw [Lib.cell_of_heap hin]; rfl
 have c1 : W.cell? ⟨w.heap.size, 1, none⟩ = some (.slice ao cs.length cap) := by rw [Lib.cell_of_heap hin]; rfl
 have c2 : W.cell? ⟨w.heap.size, 2, none⟩ = some (.int .i64 fa) := by rw [Lib.cell_of_heap hin]; rfl
 have c3 : W.cell? ⟨w.heap.size, 3, none⟩ = some (.bool wt) := by rw [Lib.cell_of_heap hin]; rfl
 have hnew := plNew_any aL aI aS w W hFW s (.slice ao cs.length cap) cs fa wt false (hv.kept hFW (fun _ _ h => h)) hs hl hw
 have e1 : comeN false s.data.toList cs fa wt = c := hc
 rw [e1] at hnew
 have HNEW := Lib.hid hnew
 have HV := Lib.hid hV
 have HG := Lib.hid hG
 have HZ := Lib.hid hzW
 have HT := Lib.hid htl
 have HFW := Lib.hid hFW
 clear hnew hV hG hzW hFW hv hw hc e1 hct htl hin
 go_enter Tryz.func5, Tryz.ntmps5
 go_upto_region 1 with fail
 clear hW
 go_wp2_with fail
 refine HNEW.out.mono ?_
 rintro e w1 ⟨Q, o, rfl, hP, ho, hk1⟩
 have hall := pl_all hP HV.out HG.out 0 hcl
 have HALL := Lib.hid hall
 have HO := Lib.hid ho
 have HP := Lib.hid hP
 have HK1 := Lib.hid hk1
 clear hall ho hP hk1 c0 c1 c2 c3
 go_wp2_with fail
 refine HALL.out.mono ?_
 rintro e w2 ⟨u, o1, rfl, hE, hu, hP2, hM2⟩
 have hcut : cutN 0 (comeE c).length = (comeE c).length := rfl
 rw [hcut, List.take_length] at hE
 rw [hcut] at hP2
 have herr := pl_err hP2 HV.out HG.out
 have HERR := Lib.hid herr
 have HE := Lib.hid hE
 have HU := Lib.hid hu
 have HP2 := Lib.hid hP2
 have HM2 := Lib.hid hM2
 clear herr hE hu hP2 hM2 hcut
 go_upto_region 6 with (refine HERR.out.mono ?_; rintro e w3 ⟨rfl, o2, hP3, hM3⟩)
 refine name_world fun X hX => ?_
 have hkX : Fresh w3 X := by rw [hX]; exact (Keeps.refl _ _).alloc _
 have hbX : X.heap[w3.heap.size]? = some (.cells #[.int .i64 c.err, .int .i64 c.n] 25 (0, 0)) := by rw [hX]; exact heap_alloc_new w3 _
 have b0 : X.cell? ⟨w3.heap.size, 0, none⟩ = some (.int .i64 c.err) := by rw [Lib.cell_of_heap hbX]; rfl
 have b1 : X.cell? ⟨w3.heap.size, 1, none⟩ = some (.int .i64 c.n) := by rw [Lib.cell_of_heap hbX]; rfl
 have hz := HZ.out
 have hz1 := HK1.out.size
 have n0 : ¬ o (w.heap.size + 1) := fun h => by have := HO.out _ h; omega
 have hT1 := HK1.out.heap_some HT.out (fun h => h)
 have hT2 := HM2.out.heap hT1 n0
 have n1 : ¬ o1 (w.heap.size + 1) := fun h => by
  rcases HM2.out.2 _ h with h | h
  ·exact n0 h
  ·omega
 have hT3 := hM3.heap hT2 n1
 have hTX := hkX.heap_some hT3 (fun h => h)
 have t0 : X.cell? ⟨w.heap.size + 1, 0, none⟩ = some (.int .i64 0) := by rw [Lib.cell_of_heap hTX]; rfl
 have t1 : X.cell? ⟨w.heap.size + 1, 1, none⟩ = some (.int .i64 0) := by rw [Lib.cell_of_heap hTX]; rfl
 have f0 : X.frozen? ⟨w.heap.size + 1, 0, none⟩ = false := Lib.frozen_of_heap hTX 0
 have f1 : X.frozen? ⟨w.heap.size + 1, 1, none⟩ = false := Lib.frozen_of_heap hTX 1
 have hE3 : Evs w3 33 u (comeE c) := HE.out.kept hM3.1 (fun k hk => (HU.out k hk).2)
 have hFX : Fresh w X := hP3.start.tr hkX
 have hsz2 := HM2.out.1.size
 have hsz3 := hM3.1.size
 have hEX := hE3.fresh hkX
 have huk : ∀ k, u.ownBlock = some k → ¬ k = w.heap.size + 1 := fun k hk e => by have := (HU.out k hk).1; omega
 have hfin : ∀ (Y : World), Y = ((X.setCell ⟨w.heap.size + 1, 0, none⟩ (.int .i64 c.err)).setCell ⟨w.heap.size + 1, 1, none⟩ (.int .i64 c.n)).drew → (loadVar 25 ⟨w.heap.size + 1, 0, none⟩).run Tryz.prog Y = .ok (.agg #[.int .i64 c.err, .int .i64 c.n]) Y ∧ Evs Y 33 u (comeE c) ∧ Fresh w Y := by
  intro Y hY
  have hh : Y.heap[w.heap.size + 1]? = some (.cells #[.int .i64 c.err, .int .i64 c.n] 25 (0, 0)) := by rw [hY]; exact (heap_set (heap_set hTX _) _).trans rfl
  have hk : Keeps (fun j => j = w.heap.size + 1) X Y := by
   rw [hY]
   exact (((Keeps.refl (fun j => j = w.heap.size + 1) X).setCell (p := ⟨w.heap.size + 1, 0, none⟩) (fun _ => rfl) _).setCell (p := ⟨w.heap.size + 1, 1, none⟩) (fun _ => rfl) _).drew
  exact ⟨load_told hh, hEX.kept hk huk, hFX.trans hk (fun j h1 h2 => by omega)⟩
 have HFIN := Lib.hid hfin
 clear hX hkX hbX hz hz1 n0 hT1 hT2 n1 hT3 hTX hE3 hFX hsz2 hsz3 hEX huk hfin hP3 hM3 HE HU HP2 HM2 HERR HP HO HK1 HNEW HT HALL HZ HFW
 go_upto_region 8 with fail
 go_region
 all_goals go_wp2
 refine bodyPost_ret (res_pull rfl rfl rfl (HFIN.out _ rfl).1) rfl ⟨u, rfl, (HFIN.out _ rfl).2⟩
end Go.Proofs.YtbioecifiogffabGreatDoor
