/- Texts of this proof, joined: Scan2, Scan3, Scan4, Scan5, Scan6, Scan7, Scan8, Scan9, Part, InlW. Conditions: as each theorem names them. -/
import Derived.Test.YtbioecifiogffaaGreatDoorR4
import Derived.Test.YtbioecifiogffaaGreatDoorR1
import Derived.Laws.IdiomStrings
import Derived.Deep.DeepCutAuto
import Derived.BigQuiet
import Derived.Deep.QuietTactic
import Derived.Deep.Draws
import Derived.IntWalk
set_option linter.unusedVariables false
set_option linter.unusedSimpArgs false
set_option maxHeartbeats 8000000
set_option maxRecDepth 1000000
namespace Go.Proofs.YtbioecifiogffaaGreatDoor
open Go.RowKit
def FlushS (C Bo g cap : Nat) (vo : Value) (p : List UInt8) (w : World) : Prop :=
 w.cell? ⟨C, 4, none⟩ = some (.pointer (some ⟨Bo, 0, none⟩)) ∧ w.cell? ⟨C, 3, none⟩ = some (.slice (some ⟨g, 0, none⟩) p.length cap) ∧ w.cell? ⟨Bo, 0, none⟩ = some vo ∧ w.ownsRow 0 5 1 (.slice (some ⟨g, 0, none⟩) p.length cap) p.length (Lib.byteCells p) ∧ (convert 71 9 (.slice (some ⟨g, 0, none⟩) p.length cap)).run Tryz.prog w = .ok (.string ⟨p.toArray⟩) w
theorem FlushS.kept {D : Nat → Prop} {w w' : World} {C Bo g cap : Nat} {vo : Value} {p : List UInt8} (h : FlushS C Bo g cap vo p w) (hk : Keeps D w w') (hC : ¬ D C) (hB : ¬ D Bo) (hg : ¬ D g) : FlushS C Bo g cap vo p w' := by
 obtain ⟨h1, h2, h3, h4, _⟩ := h
 have h4' := own_kept h4 hk (fun k hk => by simp [Value.ownBlock] at hk; rw [← hk]; exact hg)
 refine ⟨hk.cell_some h1 hC, hk.cell_some h2 hC, hk.cell_some h3 hB, h4', ?_⟩
 exact run_convert_bytes_back w' 71 9 5 ⟨g, 0, none⟩ cap p Tryz.underlying71 Tryz.underlying5 Tryz.underlying9 (fun j hj =>
   World.ownsRow.cells (v := .slice (some ⟨g, 0, none⟩) p.length cap) h4' (g := g) rfl j (.int .u8 (p[j].toNat : Int)) (by simp [Lib.byteCells, hj]))
theorem FlushS.fresh {w w' : World} {C Bo g cap : Nat} {vo : Value} {p : List UInt8} (h : FlushS C Bo g cap vo p w) (hk : Fresh w w') : FlushS C Bo g cap vo p w' := h.kept hk (fun h => h) (fun h => h) (fun h => h)
theorem FlushS.of {w : World} {C Bo g cap i : Nat} {vo : Value} {s : ByteArray} {ins : Bool} {p : List UInt8} {L : List Ev} (h : Scan w C Bo (.slice (some ⟨g, 0, none⟩) p.length cap) vo s i ins p L) : FlushS C Bo g cap vo p w :=
 ⟨h.cells.2.2.2.2.1, h.cells.2.2.2.1, h.cells.2.2.2.2.2.1, h.txt, run_convert_bytes_back w 71 9 5 ⟨g, 0, none⟩ cap p Tryz.underlying71 Tryz.underlying5 Tryz.underlying9 (fun j hj =>
   World.ownsRow.cells (v := .slice (some ⟨g, 0, none⟩) p.length cap) h.txt (g := g) rfl j (.int .u8 (p[j].toNat : Int)) (by simp [Lib.byteCells, hj]))⟩
theorem flush_any (C Bo : Nat) (v vo : Value) (s : ByteArray) (i : Nat) (ins : Bool) (p : List UInt8) (L : List Ev) (w : World) (h : Scan w C Bo v vo s i ins p L) (hp : p.length ≤ 1073741824) (hL : L.length ≤ 1073741824) :
 Calls Tryz.prog 125 #[.pointer (some ⟨C, 0, none⟩)] w fun e w' => e = .returned (.tuple #[]) ∧ ∃ v' vo', Scan w' C Bo v' vo' s i ins [] (L ++ flushE p) ∧ Mv (ScanD C Bo v vo) (ScanD C Bo v' vo') w w' := by
 obtain ⟨c0, c1, c2, c3, c4, o0, hfC, hfB⟩ := h.cells
 obtain ⟨q, cap, hv, hqc, hq, hg⟩ := own_form h.txt
 by_cases h0 : p = []
 ·subst h0
  subst hv
  rw [flushE_nil, List.append_nil]
  have H := Lib.hid h
  clear h hfC hfB hq hg
  go_enter Tryz.func125, Tryz.ntmps125
  go_wp2
  go_end0
  exact ⟨rfl, _, _, H.out, Mv.refl _ _⟩
 ·have hpl : 0 < p.length := List.length_pos_iff.2 h0
  obtain ⟨g, rfl, hgl⟩ : ∃ g, q = some ⟨g, 0, none⟩ ∧ g < w.heap.size := by
   cases q with
   | none => have := (hq rfl).1; omega
   | some a => obtain ⟨g, rfl, hgl⟩ := hg a rfl; exact ⟨g, rfl, hgl⟩
  subst hv
  have nC : ¬ vo.ownBlock = some C := own_ne h.evs h.blk (by decide)
  have nB : ¬ vo.ownBlock = some Bo := own_ne h.evs h.out (by decide)
  have nG : ¬ vo.ownBlock = some g := own_ne2 h.evs h.txt (by decide) rfl
  have H := Lib.hid h
  have H0 := Lib.hid h0
  have HI := Lib.hid Tryz.infoAE
  have HS := Lib.hid (FlushS.of h)
  clear h hfC hfB hq hg h0
  go_enter Tryz.func125, Tryz.ntmps125
  go_upto_region 1 with fail
  refine wp_region_K 19 (FlushS C Bo g cap vo p) (by kernel_rfl) ?_
  have hHeld := HS.out.fresh ((Keeps.refl _ w).drew)
  refine K_is [0, 1, 2, 3, 4, 5, 6, 7, 8, 9, 10, 11, 12, 13, 14, 15] ?_
  iterate 16 (refine K_y (v := ?_) rfl (by kernel_rfl) (fun _ _ _ h => h) (by rfl) ?_ (by assumption) ?_; rotate_left; (· intro _ hSw; (obtain ⟨hS1, hS2, hS3, -, hS5⟩ := hSw); first | (go_simp; done) | (go_simp; with_reducible rfl)); try simp only [Act.put, List.setIfInBounds_toArray, List.set_cons_zero, List.set_cons_succ])
  refine K_no ?_
  refine K_one (i := 16) (by kernel_rfl) rfl (fun K hK => ?_)
  go_simp
  refine hK.out _ _ (hHeld.fresh ((Keeps.refl _ _).alloc _)) (fun hHeld2 => ?_)
  clear hK K hHeld
  try simp only [Act.put, List.setIfInBounds_toArray, List.set_cons_zero, List.set_cons_succ]
  refine K_one (i := 17) (by kernel_rfl) rfl (fun K hK => ?_)
  refine step_append_mine _ (by rfl) _ _ 131 (by rfl) 97 _ 4 40 Tryz.underlying131 HI.out rfl (by decide) vo L.length (evCells L) (by rfl) (H.out.drew.evs.fresh ((Keeps.refl _ _).alloc _)) (some ⟨w.heap.size, 0, none⟩) 1 1 (⟨8, false, 0, p⟩ : Ev).cells (by rfl) rfl (fun h => (by cases h)) (ev_new w.drew ⟨8, false, 0, p⟩ 97) (ev_one _) (by unfold maxLen; omega) (by omega) ?_
  intro pp cc w1 hrow hgr hkp
  refine hK.out _ _ (hHeld2.kept hkp nC nB nG) (fun hHeld3 => ?_)
  clear hK K hHeld2
  try simp only [Act.put, List.setIfInBounds_toArray, List.set_cons_zero, List.set_cons_succ]
  have hS := H.out.drew.fresh ((Keeps.refl (fun _ => False) w.drew).alloc (.cells #[.int .i64 8, .bool false, .int .i64 0, .string ⟨p.toArray⟩] 97))
  have hF : Fresh w (w.drew.alloc (.cells #[.int .i64 8, .bool false, .int .i64 0, .string ⟨p.toArray⟩] 97)) := ((Keeps.refl (fun _ => False) w).drew).alloc _
  have b1 := hkp.heap_some hS.blk nC
  have b2 := hkp.heap_some hS.out nB
  have hvo : ∀ k, (Value.slice (some ⟨g, 0, none⟩) p.length cap).ownBlock = some k → ¬ vo.ownBlock = some k := fun k hk => own_ne2 hS.evs hS.txt (by decide) hk
  have b3 := own_kept hS.txt hkp hvo
  have hev : Evs w1 97 (.slice pp (L.length + 1) cc) (L ++ flushE p) := by rw [flushE_some H0.out]; exact Evs.snoc hrow
  have hm := Scan.more b1 b2 b3 hev
  have u0 := hkp.cell_some hS.cells.2.2.2.2.2.1 nB
  have u1 := (hkp.frozen (p := ⟨Bo, 0, none⟩) (World.block_lt_of_cell? _ _ hS.cells.2.2.2.2.2.1) nB).trans (hS.cells.2.2.2.2.2.2.2 0)
  have hmv : Mv (ScanD C Bo (.slice (some ⟨g, 0, none⟩) p.length cap) vo) (ScanD C Bo (.slice (some ⟨g, 0, none⟩) p.length cap) (.slice pp (L.length + 1) cc)) w (w1.setCell ⟨Bo, 0, none⟩ (.slice pp (L.length + 1) cc)) := by
   have s1 := hF.size
   refine (Mv.fresh hF).trans (Mv.of ((hkp.mono (fun k _ hk => .inr (.inr (.inr hk)))).setCell (p := ⟨Bo, 0, none⟩) (fun _ => .inr (.inl rfl)) _) (fun k h => h) (fun k hk => ?_))
   rcases hk with h | h | h | h
   ·exact .inl (.inl h)
   ·exact .inl (.inr (.inl h))
   ·exact .inl (.inr (.inr (.inl h)))
   ·rcases hgr k h with h | h
    ·exact .inl (.inr (.inr (.inr h)))
    ·exact .inr h
  have hcc := hm.cells
  have z3 := hcc.2.2.2.1
  have zf := hcc.2.2.2.2.2.2.1 3
  have ht := Scan.text (v' := .slice none 0 0) (p' := []) hm.blk hm.out (World.ownsRow_nil _ _ _ _) hm.evs
  have hmv2 : Mv (ScanD C Bo (.slice (some ⟨g, 0, none⟩) p.length cap) vo) (ScanD C Bo (.slice none 0 0) (.slice pp (L.length + 1) cc)) w ((w1.setCell ⟨Bo, 0, none⟩ (.slice pp (L.length + 1) cc)).setCell ⟨C, 3, none⟩ (.slice none 0 0)) := by
   refine hmv.trans (Mv.of ((Keeps.refl _ _).setCell (p := ⟨C, 3, none⟩) (fun _ => .inl rfl) _) (fun k h => h) (fun k hk => ?_))
   rcases hk with h | h | h | h
   ·exact .inl (.inl h)
   ·exact .inl (.inr (.inl h))
   ·cases h
   ·exact .inl (.inr (.inr (.inr h)))
  have HT := Lib.hid ht
  have HMV := Lib.hid hmv2
  clear b1 b2 hvo b3 hev hm hcc ht hmv hmv2 hS hF hkp hgr hrow HS
  refine K_is [18] ?_
  iterate 1 (refine K_y (v := ?_) rfl (by kernel_rfl) (fun _ _ _ h => h) (by rfl) ?_ (by assumption) ?_; rotate_left; (· intro _ hSw; (obtain ⟨hS1, hS2, hS3, -, hS5⟩ := hSw); first | (go_simp; done) | (go_simp; with_reducible rfl)); try simp only [Act.put, List.setIfInBounds_toArray, List.set_cons_zero, List.set_cons_succ])
  refine K_no ?_
  clear hHeld3
  refine K_last (by kernel_rfl) rfl (fun K hK => ?_)
  go_simp
  refine hK.out _ _ ?_
  clear hK K
  try simp only [Act.put, List.setIfInBounds_toArray, List.set_cons_zero, List.set_cons_succ]
  refine K_done (by kernel_rfl) ?_ _
  go_wp2
  go_end0
  exact ⟨rfl, _, _, HT.out, HMV.out⟩
end Go.Proofs.YtbioecifiogffaaGreatDoor
namespace Go.Proofs.YtbioecifiogffaaGreatDoor
open Go.RowKit
theorem Scan.lt {w : World} {C Bo : Nat} {v vo : Value} {s : ByteArray} {i : Nat} {ins : Bool} {p : List UInt8} {L : List Ev} (h : Scan w C Bo v vo s i ins p L) {k : Nat} (hk : ScanD C Bo v vo k) : k < w.heap.size := by
 rcases hk with rfl | rfl | hk | hk
 ·exact (Array.getElem?_eq_some_iff.1 h.blk).1
 ·exact (Array.getElem?_eq_some_iff.1 h.out).1
 ·exact own_lt h.txt hk
 ·exact own_lt h.evs hk
def TellS (C Bo E : Nat) (vo : Value) (e : Ev) (w : World) : Prop :=
 w.cell? ⟨C, 4, none⟩ = some (.pointer (some ⟨Bo, 0, none⟩)) ∧ w.cell? ⟨Bo, 0, none⟩ = some vo ∧ w.cell? ⟨E, 0, none⟩ = some (.int .i64 e.kind) ∧ w.cell? ⟨E, 1, none⟩ = some (.bool e.fin) ∧ w.cell? ⟨E, 2, none⟩ = some (.int .i64 e.level) ∧ w.cell? ⟨E, 3, none⟩ = some (.string ⟨e.text.toArray⟩)
theorem TellS.kept {D : Nat → Prop} {w w' : World} {C Bo E : Nat} {vo : Value} {e : Ev} (h : TellS C Bo E vo e w) (hk : Keeps D w w') (hC : ¬ D C) (hB : ¬ D Bo) (hE : ¬ D E) : TellS C Bo E vo e w' := by
 obtain ⟨h1, h2, h3, h4, h5, h6⟩ := h
 exact ⟨hk.cell_some h1 hC, hk.cell_some h2 hB, hk.cell_some h3 hE, hk.cell_some h4 hE, hk.cell_some h5 hE, hk.cell_some h6 hE⟩
theorem TellS.fresh {w w' : World} {C Bo E : Nat} {vo : Value} {e : Ev} (h : TellS C Bo E vo e w) (hk : Fresh w w') : TellS C Bo E vo e w' := h.kept hk (fun h => h) (fun h => h) (fun h => h)
theorem tell_any (C Bo : Nat) (v vo : Value) (s : ByteArray) (i : Nat) (ins : Bool) (p : List UInt8) (L : List Ev) (e : Ev) (w : World) (h : Scan w C Bo v vo s i ins p L) (hp : p.length ≤ 1073741824) (hL : L.length ≤ 1073741823) :
 Calls Tryz.prog 148 #[.pointer (some ⟨C, 0, none⟩), .agg #[.int .i64 e.kind, .bool e.fin, .int .i64 e.level, .string ⟨e.text.toArray⟩]] w fun r w' => r = .returned (.tuple #[]) ∧ ∃ v' vo', Scan w' C Bo v' vo' s i ins [] (L ++ flushE p ++ [e]) ∧ Mv (ScanD C Bo v vo) (ScanD C Bo v' vo') w w' := by
 obtain ⟨W, hW⟩ : ∃ W, W = w.alloc (.cells #[.int .i64 e.kind, .bool e.fin, .int .i64 e.level, .string ⟨e.text.toArray⟩] 97) := ⟨_, rfl⟩
 have hF : Fresh w W := by rw [hW]; exact (Keeps.refl _ w).alloc _
 have hE : W.cell? ⟨w.heap.size, 0, none⟩ = some (.int .i64 e.kind) ∧ W.cell? ⟨w.heap.size, 1, none⟩ = some (.bool e.fin) ∧ W.cell? ⟨w.heap.size, 2, none⟩ = some (.int .i64 e.level) ∧ W.cell? ⟨w.heap.size, 3, none⟩ = some (.string ⟨e.text.toArray⟩) := by rw [hW]; simp
 have hfl := flush_any C Bo v vo s i ins p L W (h.fresh hF) hp (by omega)
 have hnE : ¬ ScanD C Bo v vo w.heap.size := fun hk => Nat.lt_irrefl _ (h.lt hk)
 have HFL := Lib.hid hfl
 have HF := Lib.hid hF
 have HNE := Lib.hid hnE
 have HE := Lib.hid hE
 have HI := Lib.hid Tryz.infoAE
 clear hfl hF hnE hE h
 go_enter Tryz.func148, Tryz.ntmps148
 go_wp2_with fail
 rw [← hW]
 clear hW
 refine HFL.out.mono ?_
 rintro r w2 ⟨rfl, v2, vo2, hs2, hm2⟩
 obtain ⟨c0, c1, c2, c3, c4, o0, hfC, hfB⟩ := hs2.cells
 obtain ⟨e0, e1, e2, e3⟩ := HE.out
 have hlt := HF.out.size
 have hS0 : TellS C Bo w.heap.size vo2 e w2 := ⟨c4, o0, hm2.1.cell_some e0 HNE.out, hm2.1.cell_some e1 HNE.out, hm2.1.cell_some e2 HNE.out, hm2.1.cell_some e3 HNE.out⟩
 have nC : ¬ vo2.ownBlock = some C := own_ne hs2.evs hs2.blk (by decide)
 have nB : ¬ vo2.ownBlock = some Bo := own_ne hs2.evs hs2.out (by decide)
 have nE : ¬ vo2.ownBlock = some w.heap.size := fun hk => by
  rcases hm2.2 _ (.inr (.inr (.inr hk))) with h1 | h1
  ·exact HNE.out h1
  ·have := World.block_lt_of_cell? _ _ e0
   simp at this
   omega
 have hll : (L ++ flushE p).length ≤ L.length + 1 := by rw [List.length_append]; unfold flushE; split <;> simp
 obtain ⟨M, hMd⟩ : ∃ M, L ++ flushE p = M := ⟨_, rfl⟩
 rw [hMd] at hs2 hll
 have HMD := Lib.hid hMd
 clear hMd
 have H2 := Lib.hid hs2
 have HM := Lib.hid hm2
 have HS0 := Lib.hid hS0
 clear hs2 hm2 hS0 c0 c1 c2 c3 c4 o0 hfC hfB e0 e1 e2 e3
 go_upto_region 2 with fail
 refine wp_region_K 14 (TellS C Bo w.heap.size vo2 e) (by kernel_rfl) ?_
 have hHeld := HS0.out.fresh ((Keeps.refl _ w2).drew)
 refine K_is [0, 1, 2, 3, 4, 5, 6, 7, 8, 9, 10] ?_
 iterate 11 (refine K_y (v := ?_) rfl (by kernel_rfl) (fun _ _ _ h => h) (by rfl) ?_ (by assumption) ?_; rotate_left; (· intro _ hSw; (obtain ⟨hS1, hS2, hS3, hS4, hS5, hS6⟩ := hSw); first | (go_simp; done) | (go_simp; with_reducible rfl)); try simp only [Act.put, List.setIfInBounds_toArray, List.set_cons_zero, List.set_cons_succ])
 refine K_no ?_
 refine K_one (i := 11) (by kernel_rfl) rfl (fun K hK => ?_)
 go_simp
 refine hK.out _ _ (hHeld.fresh ((Keeps.refl _ _).alloc _)) (fun hHeld2 => ?_)
 clear hK K hHeld
 try simp only [Act.put, List.setIfInBounds_toArray, List.set_cons_zero, List.set_cons_succ]
 refine K_one (i := 12) (by kernel_rfl) rfl (fun K hK => ?_)
 refine step_append_mine _ (by rfl) _ _ 131 (by rfl) 97 _ 4 40 Tryz.underlying131 HI.out rfl (by decide) vo2 M.length (evCells M) (by rfl) (H2.out.drew.evs.fresh ((Keeps.refl _ _).alloc _)) (some ⟨w2.heap.size, 0, none⟩) 1 1 e.cells (by rfl) rfl (fun h => (by cases h)) (ev_new w2.drew e 97) (ev_one _) (by unfold maxLen; omega) (by omega) ?_
 intro pp cc w3 hrow hgr hkp
 refine hK.out _ _ (hHeld2.kept hkp nC nB nE) (fun hHeld3 => ?_)
 clear hK K hHeld2
 try simp only [Act.put, List.setIfInBounds_toArray, List.set_cons_zero, List.set_cons_succ]
 have hS := H2.out.drew.fresh ((Keeps.refl (fun _ => False) w2.drew).alloc (.cells #[.int .i64 e.kind, .bool e.fin, .int .i64 e.level, .string ⟨e.text.toArray⟩] 97))
 have hF2 : Fresh w2 (w2.drew.alloc (.cells #[.int .i64 e.kind, .bool e.fin, .int .i64 e.level, .string ⟨e.text.toArray⟩] 97)) := ((Keeps.refl (fun _ => False) w2).drew).alloc _
 have b1 := hkp.heap_some hS.blk nC
 have b2 := hkp.heap_some hS.out nB
 have hvo : ∀ k, v2.ownBlock = some k → ¬ vo2.ownBlock = some k := fun k hk => own_ne2 hS.evs hS.txt (by decide) hk
 have b3 := own_kept hS.txt hkp hvo
 have hev : Evs w3 97 (.slice pp (M.length + 1) cc) (M ++ [e]) := Evs.snoc hrow
 have hm := Scan.more b1 b2 b3 hev
 have u0 := hkp.cell_some hS.cells.2.2.2.2.2.1 nB
 have u1 := (hkp.frozen (p := ⟨Bo, 0, none⟩) (World.block_lt_of_cell? _ _ hS.cells.2.2.2.2.2.1) nB).trans (hS.cells.2.2.2.2.2.2.2 0)
 have hmv : Mv (ScanD C Bo v vo) (ScanD C Bo v2 (.slice pp (M.length + 1) cc)) w (w3.setCell ⟨Bo, 0, none⟩ (.slice pp (M.length + 1) cc)) := by
  have s1 := hF2.size
  refine (Mv.fresh HF.out).trans (HM.out.trans ((Mv.fresh hF2).trans (Mv.of ((hkp.mono (D' := ScanD C Bo v2 vo2) (fun k _ hk => .inr (.inr (.inr hk)))).setCell (p := ⟨Bo, 0, none⟩) (fun _ => .inr (.inl rfl)) _) (fun k h => h) (fun k hk => ?_))))
  rcases hk with h | h | h | h
  ·exact .inl (.inl h)
  ·exact .inl (.inr (.inl h))
  ·exact .inl (.inr (.inr (.inl h)))
  ·rcases hgr k h with h | h
   ·exact .inl (.inr (.inr (.inr h)))
   ·exact .inr h
 have HT := Lib.hid hm
 have HMV := Lib.hid hmv
 clear b1 b2 hvo b3 hev hm hmv hS hF2 hkp hgr hrow HS0
 refine K_is [13] ?_
 iterate 1 (refine K_y (v := ?_) rfl (by kernel_rfl) (fun _ _ _ h => h) (by rfl) ?_ (by assumption) ?_; rotate_left; (· intro _ hSw; (obtain ⟨hS1, hS2, hS3, hS4, hS5, hS6⟩ := hSw); first | (go_simp; done) | (go_simp; with_reducible rfl)); try simp only [Act.put, List.setIfInBounds_toArray, List.set_cons_zero, List.set_cons_succ])
 refine K_no ?_
 clear hHeld3
 refine K_last (by kernel_rfl) rfl (fun K hK => ?_)
 go_simp
 refine hK.out _ _ ?_
 clear hK K
 try simp only [Act.put, List.setIfInBounds_toArray, List.set_cons_zero, List.set_cons_succ]
 refine K_done (by kernel_rfl) ?_ _
 go_wp2
 go_end0
 exact ⟨rfl, _, _, by rw [HMD.out]; exact HT.out, HMV.out⟩
end Go.Proofs.YtbioecifiogffaaGreatDoor
namespace Go.Proofs.YtbioecifiogffaaGreatDoor
open Go.RowKit
def OutD (Bo : Nat) (vo : Value) (k : Nat) : Prop := k = Bo ∨ vo.ownBlock = some k
def PartOK (n : Nat) : Prop :=
 ∀ (s : ByteArray) (ins : Bool) (Bo : Nat) (vo : Value) (L : List Ev) (w : World), w.heap[Bo]? = some (.cells #[vo] 131 (0, 0)) → Evs w 97 vo L → s.size < n → s.size ≤ 16777216 → L.length + 2 * s.size ≤ 1000000000 → Gl w → Hi (OutD Bo vo) →
  Calls Tryz.prog 114 #[.string s, .bool ins, .pointer (some ⟨Bo, 0, none⟩)] w fun e w' => e = .returned (.tuple #[]) ∧ ∃ vo', w'.heap[Bo]? = some (.cells #[vo'] 131 (0, 0)) ∧ Evs w' 97 vo' (L ++ inlF n ins s.data.toList []) ∧ Mv (OutD Bo vo) (OutD Bo vo') w w'
theorem Scan.part {w w' : World} {C Bo : Nat} {v vo vo' : Value} {s : ByteArray} {i : Nat} {ins : Bool} {p : List UInt8} {L L' : List Ev} (h : Scan w C Bo v vo s i ins p L)
 (hb : w'.heap[Bo]? = some (.cells #[vo'] 131 (0, 0))) (he : Evs w' 97 vo' L') (hm : Mv (OutD Bo vo) (OutD Bo vo') w w') :
 Scan w' C Bo v vo' s i ins p L' ∧ Mv (ScanD C Bo v vo) (ScanD C Bo v vo') w w' := by
 have nC : ¬ OutD Bo vo C := by
  rintro (hk | hk)
  ·exact h.neCB hk
  ·exact own_ne h.evs h.blk (by decide) hk
 have nV : ∀ k, v.ownBlock = some k → ¬ OutD Bo vo k := by
  rintro k hk (rfl | h2)
  ·exact own_ne h.txt h.out (by decide) hk
  ·exact own_ne2 h.evs h.txt (by decide) hk h2
 refine ⟨⟨hm.1.heap_some h.blk nC, hb, own_kept h.txt hm.1 nV, he⟩, hm.1.mono (fun k _ hk => ?_), fun k hk => ?_⟩
 ·rcases hk with h1 | h1
  ·exact .inr (.inl h1)
  ·exact .inr (.inr (.inr h1))
 ·rcases hk with h1 | h1 | h1 | h1
  ·exact .inl (.inl h1)
  ·exact .inl (.inr (.inl h1))
  ·exact .inl (.inr (.inr (.inl h1)))
  ·rcases hm.2 k (.inr h1) with (h2 | h2) | h2
   ·exact .inl (.inr (.inl h2))
   ·exact .inl (.inr (.inr (.inr h2)))
   ·exact .inr h2
theorem flushE_le (p : List UInt8) : (flushE p).length ≤ 1 := by unfold flushE; split <;> simp
theorem around_any (n : Nat) (IH : PartOK n) (C Bo : Nat) (v vo : Value) (s : ByteArray) (i : Nat) (ins : Bool) (p : List UInt8) (L : List Ev) (e : Ev) (sub : ByteArray) (ins' : Bool) (w : World) (h : Scan w C Bo v vo s i ins p L) (hG : Gl w) (hH : Hi (ScanD C Bo v vo))
 (hp : p.length ≤ 16777216) (hn : sub.size < n) (hs : sub.size ≤ 16777216) (hL : L.length + (flushE p).length + 1 + 2 * sub.size ≤ 1000000000) :
 Calls Tryz.prog 152 #[.pointer (some ⟨C, 0, none⟩), .agg #[.int .i64 e.kind, .bool e.fin, .int .i64 e.level, .string ⟨e.text.toArray⟩], .string sub, .bool ins'] w fun r w' => r = .returned (.tuple #[]) ∧ ∃ v' vo', Scan w' C Bo v' vo' s i ins [] (L ++ flushE p ++ e :: (inlF n ins' sub.data.toList [] ++ [endE e])) ∧ Mv (ScanD C Bo v vo) (ScanD C Bo v' vo') w w' := by
 obtain ⟨W, hW⟩ : ∃ W, W = w.alloc (.cells #[.int .i64 e.kind, .bool e.fin, .int .i64 e.level, .string ⟨e.text.toArray⟩] 97) := ⟨_, rfl⟩
 have hF : Fresh w W := by rw [hW]; exact (Keeps.refl _ w).alloc _
 have e0 : W.cell? ⟨w.heap.size, 0, none⟩ = some (.int .i64 e.kind) := by rw [hW]; simp
 have e1 : W.cell? ⟨w.heap.size, 1, none⟩ = some (.bool e.fin) := by rw [hW]; simp
 have e2 : W.cell? ⟨w.heap.size, 2, none⟩ = some (.int .i64 e.level) := by rw [hW]; simp
 have e3 : W.cell? ⟨w.heap.size, 3, none⟩ = some (.string ⟨e.text.toArray⟩) := by rw [hW]; simp
 have htl := tell_any C Bo v vo s i ins p L e W (h.fresh hF) (by omega) (by omega)
 have hnE : ¬ ScanD C Bo v vo w.heap.size := fun hk => Nat.lt_irrefl _ (h.lt hk)
 obtain ⟨M, hMd⟩ : ∃ M, L ++ flushE p ++ [e] = M := ⟨_, rfl⟩
 rw [hMd] at htl
 have hMl : M.length = L.length + (flushE p).length + 1 := by rw [← hMd]; simp; omega
 have hWs : w.heap.size < W.heap.size := World.block_lt_of_cell? W ⟨w.heap.size, 0, none⟩ e0
 have hMl2 : M.length + 2 * sub.size ≤ 1000000000 := by omega
 obtain ⟨I, hI⟩ : ∃ I, inlF n ins' sub.data.toList [] = I := ⟨_, rfl⟩
 have hIl : I.length ≤ 2 * sub.size := by have := inlF_length n ins' sub.data.toList []; rw [hI, flushE_nil] at this; simpa using this
 have hR : L ++ flushE p ++ e :: (I ++ [endE e]) = M ++ I ++ [endE e] := by rw [← hMd]; simp
 rw [hI, hR]
 have HTL := Lib.hid htl
 have HF := Lib.hid hF
 have HNE := Lib.hid hnE
 have HI := Lib.hid hI
 have HIH := Lib.hid IH
 have HG := Lib.hid (hG.fresh hF)
 have HH := Lib.hid hH
 clear htl hF hnE h hMd hMl hI hR IH hL hG hH
 go_enter Tryz.func152, Tryz.ntmps152
 go_upto_region 1 with fail
 rw [← hW]
 clear hW
 go_wp2_with fail
 refine HTL.out.mono ?_
 rintro r w2 ⟨rfl, v2, vo2, hs2, hm2⟩
 obtain ⟨c0, c1, c2, c3, c4, o0, hfC, hfB⟩ := hs2.cells
 have f0 := hm2.1.cell_some e0 HNE.out
 obtain ⟨hG2, hH2⟩ := HG.out.mv hm2 HH.out
 have hpt := HIH.out sub ins' Bo vo2 M w2 hs2.out hs2.evs hn hs hMl2 hG2 (fun k hk => hH2 k (hk.elim (fun h => .inr (.inl h)) (fun h => .inr (.inr (.inr h)))))
 rw [HI.out] at hpt
 have HPT := Lib.hid hpt
 have HS2 := Lib.hid hs2
 have HM2 := Lib.hid hm2
 clear hpt hs2 hm2 e0 e1 e2 e3 hG2 hH2
 go_wp2_with fail
 refine HPT.out.mono ?_
 rintro r w3 ⟨rfl, vo3, hb3, he3, hm3⟩
 obtain ⟨hs4, hm4⟩ := HS2.out.part hb3 he3 hm3
 have hlt : w.heap.size < w2.heap.size := World.block_lt_of_cell? _ _ f0
 have hnE2 : ¬ ScanD C Bo v2 vo2 w.heap.size := fun hk => by
  rcases HM2.out.2 _ hk with h1 | h1
  ·exact HNE.out h1
  ·omega
 have g0 := hm4.1.cell_some f0 hnE2
 have htl2 := tell_any C Bo v2 vo3 s i ins [] (M ++ I) (endE e) w3 hs4 (by simp) (by simp; omega)
 rw [flushE_nil, List.append_nil] at htl2
 have HTL2 := Lib.hid htl2
 have HM4 := Lib.hid hm4
 clear hb3 he3 hm3 hs4 hm4 htl2 hnE2 f0 c0 c1 c2 c3 c4 o0 hfC hfB
 go_wp2_with fail
 refine HTL2.out.mono ?_
 rintro r w4 ⟨rfl, v4, vo4, hs4, hm4⟩
 have hfin : Mv (ScanD C Bo v vo) (ScanD C Bo v4 vo4) w w4 := (Mv.fresh HF.out).trans (HM2.out.trans (HM4.out.trans hm4))
 have HS4 := Lib.hid hs4
 have HMF := Lib.hid hfin
 clear hs4 hm4 hfin
 go_wp2
 go_end0
 exact ⟨rfl, _, _, HS4.out, HMF.out⟩
end Go.Proofs.YtbioecifiogffaaGreatDoor
namespace Go.Proofs.YtbioecifiogffaaGreatDoor
open Go.RowKit
def StepPost (n C Bo : Nat) (v vo : Value) (s : ByteArray) (i : Nat) (ins : Bool) (p : List UInt8) (L : List Ev) (w : World) (tk : Tok × Nat) (r : Ending) (w' : World) : Prop :=
 match tk with
 | (.ch _, 0) => r = .returned (.bool false) ∧ Fresh w w'
 | (.ch c, k + 1) => r = .returned (.bool true) ∧ ∃ v' vo', Scan w' C Bo v' vo' s (i + k + 2) ins (p ++ [c]) L ∧ Mv (ScanD C Bo v vo) (ScanD C Bo v' vo') w w'
 | (.one e, k) => r = .returned (.bool true) ∧ ∃ v' vo', Scan w' C Bo v' vo' s (i + k + 1) ins [] (L ++ flushE p ++ [e]) ∧ Mv (ScanD C Bo v vo) (ScanD C Bo v' vo') w w'
 | (.sub e s' i', k) => r = .returned (.bool true) ∧ ∃ v' vo', Scan w' C Bo v' vo' s (i + k + 1) ins [] (L ++ flushE p ++ e :: (inlF n i' s' [] ++ [endE e])) ∧ Mv (ScanD C Bo v vo) (ScanD C Bo v' vo') w w'
theorem Tryz.infoU8 : (Tryz.prog.info? 5).map (fun i => (i.zero, i.size, i.bytes)) = some (some (.int .u8 0), 1, 1) := by kernel_rfl
def TextS (C : Nat) (v : Value) (i : Nat) (w : World) : Prop := w.cell? ⟨C, 3, none⟩ = some v ∧ w.cell? ⟨C, 1, none⟩ = some (.int .i64 i)
theorem TextS.kept {D : Nat → Prop} {w w' : World} {C i : Nat} {v : Value} (h : TextS C v i w) (hk : Keeps D w w') (hC : ¬ D C) : TextS C v i w' := ⟨hk.cell_some h.1 hC, hk.cell_some h.2 hC⟩
theorem byte_new (w : World) (c : UInt8) (t : TypeId) : ∀ ad, some (⟨w.heap.size, 0, none⟩ : Addr) = some ad → ∀ j u, [Value.int .u8 c.toNat][j]? = some u → (w.alloc (.cells #[.int .u8 c.toNat] t)).cell? (ad.add j) = some u := by
 intro ad had j u hj
 cases had
 match j, hj with
 | 0, hj => simp at hj; subst hj; simp [Addr.add]
theorem byteCells_snoc (p : List UInt8) (c : UInt8) : Lib.byteCells (p ++ [c]) = Lib.byteCells p ++ [Value.int .u8 c.toNat] := by simp [Lib.byteCells]
theorem Scan.grow {w W w1 : World} {C Bo : Nat} {v vo : Value} {s : ByteArray} {i : Nat} {ins : Bool} {p : List UInt8} {L : List Ev} {c : UInt8} {pp : Option Addr} {cc : Nat} (h : Scan w C Bo v vo s i ins p L) (hF : Fresh w W)
 (hrow : w1.ownsRow 0 5 1 (.slice pp (p.length + 1) cc) (p.length + 1) (Lib.byteCells p ++ [Value.int .u8 c.toNat])) (hgr : Grow W v (.slice pp (p.length + 1) cc)) (hkp : Keeps (fun k => v.ownBlock = some k) W w1) :
 Scan (w1.setCell ⟨C, 3, none⟩ (.slice pp (p.length + 1) cc)) C Bo (.slice pp (p.length + 1) cc) vo s i ins (p ++ [c]) L ∧ Mv (ScanD C Bo v vo) (ScanD C Bo (.slice pp (p.length + 1) cc) vo) w (w1.setCell ⟨C, 3, none⟩ (.slice pp (p.length + 1) cc)) ∧
 w1.cell? ⟨C, 3, none⟩ = some v ∧ w1.frozen? ⟨C, 3, none⟩ = false := by
 have hS := h.fresh hF
 have nC : ¬ v.ownBlock = some C := own_ne hS.txt hS.blk (by decide)
 have nB : ¬ v.ownBlock = some Bo := own_ne hS.txt hS.out (by decide)
 have b1 := hkp.heap_some hS.blk nC
 have b2 := hkp.heap_some hS.out nB
 have b4 := hS.evs.kept hkp (fun k hk h2 => own_ne2 hS.evs hS.txt (by decide) h2 hk)
 refine ⟨Scan.text b1 b2 ?_ b4, ?_, hkp.cell_some hS.cells.2.2.2.1 nC, (hkp.frozen (p := ⟨C, 3, none⟩) (World.block_lt_of_cell? _ _ hS.cells.2.2.2.1) nC).trans (hS.cells.2.2.2.2.2.2.1 3)⟩
 ·rw [byteCells_snoc, List.length_append]; exact hrow
 ·refine (Mv.fresh hF).trans (Mv.of ((hkp.mono (D' := ScanD C Bo v vo) (fun k _ hk => .inr (.inr (.inl hk)))).setCell (p := ⟨C, 3, none⟩) (fun _ => .inl rfl) _) (fun k h => h) (fun k hk => ?_))
  rcases hk with h1 | h1 | h1 | h1
  ·exact .inl (.inl h1)
  ·exact .inl (.inr (.inl h1))
  ·rcases hgr k h1 with h2 | h2
   ·exact .inl (.inr (.inr (.inl h2)))
   ·exact .inr h2
  ·exact .inl (.inr (.inr (.inr h1)))
theorem Mv.at {w w1 : World} {C Bo : Nat} {v vo v' vo' : Value} (h : Mv (ScanD C Bo v vo) (ScanD C Bo v' vo') w w1) (hC : C < w.heap.size) (u : Value) : Mv (ScanD C Bo v vo) (ScanD C Bo v' vo') w (w1.setCell ⟨C, 1, none⟩ u) :=
 h.trans (Mv.of ((Keeps.refl _ _).setCell (p := ⟨C, 1, none⟩) (fun _ => .inl rfl) _) (fun k h => h) (fun k hk => .inl hk))
theorem step_esc (n C Bo : Nat) (v vo : Value) (s : ByteArray) (i : Nat) (ins : Bool) (p : List UInt8) (L : List Ev) (w : World) (h : Scan w C Bo v vo s i ins p L) (hs : s.size ≤ 16777216) (hp : p.length ≤ 16777216)
 (c : UInt8) (t' : List UInt8) (hi : i < s.size) (ht : s.data.toList.drop (i + 1) = c :: t') (hc : sgn c = true) :
 Calls Tryz.prog 124 #[.pointer (some ⟨C, 0, none⟩), .int .u8 92] w (StepPost n C Bo v vo s i ins p L w (.ch c, 1)) := by
 obtain ⟨c0, c1, c2, c3, c4, o0, hfC, hfB⟩ := h.cells
 have hes := fun W : World => escaped_any (s.extract (i + 1) s.size) W
 rw [rest_list, ht, show esc (c :: t') = true from hc] at hes
 have w1 : IntKind.i64.wrap ((i : Int) + 1) = (i : Int) + 1 := IntWalk.i64_in _ (by omega)
 have w2 : (0 : Int) ≤ (i : Int) + 1 := by omega
 have w3 : ((i : Int) + 1).toNat = i + 1 := by omega
 have w4 : (i : Int) + 1 ≤ (s.size : Int) := by omega
 have HES := Lib.hid hes
 have H := Lib.hid h
 clear hes h
 go_enter Tryz.func124, Tryz.ntmps124
 go_wp2_with fail
 go_quiet (fail)
 obtain ⟨R, hR⟩ : ∃ R, s.extract (i + 1) s.size = R := ⟨_, rfl⟩
 rw [hR]
 have hRl : R.data.toList = c :: t' := by rw [← hR, rest_list, ht]
 have hes := HES.out
 rw [hR] at hes
 have HES := Lib.hid hes
 have hR0 : 0 < R.size := by have : R.data.toList.length = t'.length + 1 := by rw [hRl]; rfl
                             simp at this; omega
 have hRc : R[0]'hR0 = c := by
  have := drop_lt hR0
  rw [List.drop_zero, hRl] at this
  injection this with h1 _
  exact h1.symm
 clear hR hRl hes
 have hF : Fresh w (w.drewN nq) := (Keeps.refl _ w).drewN nq
 go_wp2_with fail
 refine (HES.out _).mono ?_
 rintro e w2 ⟨rfl, hk2⟩
 have hF2 := hF.tr hk2
 have hs0 : TextS C v i w2.drew := TextS.kept ⟨c3, c1⟩ (hF2.tr ((Keeps.refl _ w2).drew)) (fun h => h)
 have HF2 := Lib.hid hF2
 have HI := Lib.hid Tryz.infoU8
 clear hF hk2 hF2 hfC hfB c0 c2 c4 o0
 go_upto_region 7 with fail
 refine wp_region_K 11 (TextS C v i) (by kernel_rfl) ?_
 have hHeld := hs0
 clear hs0
 refine K_is [0, 1, 2, 3, 4, 5, 6] ?_
 iterate 7 (refine K_y (v := ?_) rfl (by kernel_rfl) (fun _ _ _ h => h) (by rfl) ?_ (by assumption) ?_; rotate_left; (· intro _ hSw; (obtain ⟨hS1, hS2⟩ := hSw); first | (go_simp; done) | (go_simp; with_reducible rfl)); try simp only [Act.put, List.setIfInBounds_toArray, List.set_cons_zero, List.set_cons_succ])
 refine K_no ?_
 refine K_one (i := 7) (by kernel_rfl) rfl (fun K hK => ?_)
 go_simp
 refine hK.out _ _ (hHeld.kept ((Keeps.refl (fun _ => False) _).alloc _) (fun h => h)) (fun hHeld2 => ?_)
 clear hK K hHeld
 try simp only [Act.put, List.setIfInBounds_toArray, List.set_cons_zero, List.set_cons_succ]
 have hF3 : Fresh w (w2.drew.alloc (.cells #[.int .u8 c.toNat] 5)) := (HF2.out.drew).alloc _
 refine K_one (i := 8) (by kernel_rfl) rfl (fun K hK => ?_)
 refine step_append_mine _ (by rfl) _ _ 71 (by rfl) 5 _ 1 1 Tryz.underlying71 HI.out rfl (by decide) v p.length (Lib.byteCells p) (by rfl) ((H.out.fresh hF3).txt) (some ⟨w2.heap.size, 0, none⟩) 1 1 [.int .u8 c.toNat] (by rfl) rfl (fun h => (by cases h)) (byte_new w2.drew c 5) (fun u hu => by simp at hu; rw [hu]; rfl) (by unfold maxLen; omega) (by omega) ?_
 intro pp cc w3 hrow hgr hkp
 obtain ⟨hm, hmv, z3, zf⟩ := H.out.grow hF3 hrow hgr hkp
 refine hK.out _ _ (hHeld2.kept hkp (own_ne (H.out.fresh hF3).txt (H.out.fresh hF3).blk (by decide))) (fun hHeld3 => ?_)
 clear hK K hHeld2
 try simp only [Act.put, List.setIfInBounds_toArray, List.set_cons_zero, List.set_cons_succ]
 have a1 := hm.cells.2.1
 have af := hm.cells.2.2.2.2.2.2.1 1
 have hat := hm.at (i + 2)
 have hmv2 := hmv.at (H.out.lt (.inl rfl)) (.int .i64 ((i + 2 : Nat) : Int))
 have HAT := Lib.hid hat
 have HMV := Lib.hid hmv2
 clear hrow hgr hkp hm hmv hF3 hat hmv2
 refine K_is [9, 10] ?_
 iterate 2 (refine K_y (v := ?_) rfl (by kernel_rfl) (fun _ _ _ h => h) (by rfl) ?_ (by assumption) ?_; rotate_left; (· intro _ hSw; (obtain ⟨hS1, hS2⟩ := hSw); first | (go_simp; done) | (go_simp; with_reducible rfl)); try simp only [Act.put, List.setIfInBounds_toArray, List.set_cons_zero, List.set_cons_succ])
 refine K_no ?_
 clear hHeld3
 refine K_last (by kernel_rfl) rfl (fun K hK => ?_)
 go_simp
 refine hK.out _ _ ?_
 clear hK K
 try simp only [Act.put, List.setIfInBounds_toArray, List.set_cons_zero, List.set_cons_succ]
 refine K_done (by kernel_rfl) ?_ _
 go_wp2
 go_ret
 exact ⟨rfl, _, _, HAT.out, HMV.out⟩
end Go.Proofs.YtbioecifiogffaaGreatDoor
namespace Go.Proofs.YtbioecifiogffaaGreatDoor
open Go.RowKit
theorem esc_any {l : List UInt8} {r : Bool} (R : ByteArray) (hR : R.data.toList = l) (h : esc l = r) : ∀ W : World, Calls Tryz.prog 147 #[.string R] W fun e w' => e = .returned (.bool r) ∧ Fresh W w' := fun W => by
 have := escaped_any R W
 rw [hR, h] at this
 exact this
theorem nlp_any {l : List UInt8} {r : Bool} (R : ByteArray) (hR : R.data.toList = l) (h : Lib.hasPrefix l [10] = r) : ∀ W : World, Calls Tryz.prog 134 #[.string R, .string ⟨#[10]⟩] W fun e w' => e = .returned (.bool r) ∧ w' = W := fun W => by
 have := Tryz.strings_HasPrefix R ⟨#[10]⟩ W
 rw [hR, show (⟨#[10]⟩ : ByteArray).data.toList = [10] from rfl, h] at this
 exact this
theorem cut_any {l : List UInt8} {c : UInt8} (R : ByteArray) (hR : R.data.toList = l) (hs : R.size ≤ 16777216) (a b : List UInt8) (ok : Bool) (h : Lib.cut l [c] = (a, b, ok)) (W : World) (hG : Gl W) : Calls Tryz.prog 149 #[.string R, .string ⟨#[c]⟩] W fun e w' => e = .returned (.tuple #[.string ⟨a.toArray⟩, .string ⟨b.toArray⟩, .bool ok]) ∧ Fresh W w' := by
 obtain ⟨⟨m, hm⟩, -⟩ := hG
 refine (Tryz.strings_Cut R ⟨#[c]⟩ m W (by omega) hm).mono ?_
 rintro e w' ⟨rfl, n, rfl⟩
 rw [hR, show (⟨#[c]⟩ : ByteArray).data.toList = [c] from rfl, h]
 exact ⟨rfl, (Keeps.refl _ _).drewN n⟩
theorem spaces_any (R : ByteArray) (hs : R.size ≤ 16777216) (W : World) (hG : Gl W) : Calls Tryz.prog 108 #[.string R, .string ⟨#[10]⟩, .string ⟨#[32]⟩] W fun e w' => e = .returned (.string ⟨(spc R.data.toList).toArray⟩) ∧ Fresh W w' := by
 obtain ⟨⟨m, hm⟩, -⟩ := hG
 have hc := Lib.countB_le ⟨#[10]⟩ (by decide) R.size R (Nat.le_refl _)
 refine (Tryz.strings_ReplaceAll R ⟨#[10]⟩ ⟨#[32]⟩ m W (by omega) hm (by decide) ?_).mono ?_
 ·have : (⟨#[32]⟩ : ByteArray).size = 1 := rfl
  rw [this]
  omega
 ·rintro e w' ⟨rfl, hb⟩
  rw [show (⟨#[10]⟩ : ByteArray).data.toList = [10] from rfl, show (⟨#[32]⟩ : ByteArray).data.toList = [32] from rfl, replaceAll_spc]
  exact ⟨rfl, Fresh.of hb⟩
theorem step_hard (n C Bo : Nat) (v vo : Value) (s : ByteArray) (i : Nat) (ins : Bool) (p : List UInt8) (L : List Ev) (w : World) (h : Scan w C Bo v vo s i ins p L) (hs : s.size ≤ 16777216) (hp : p.length ≤ 16777216)
 (hL : L.length ≤ 1000000000) (t : List UInt8) (hi : i < s.size) (ht : s.data.toList.drop (i + 1) = t) (t' : List UInt8) (ht2 : t = 10 :: t') :
 Calls Tryz.prog 124 #[.pointer (some ⟨C, 0, none⟩), .int .u8 92] w (StepPost n C Bo v vo s i ins p L w (.one ⟨11, false, 0, []⟩, 1)) := by
 obtain ⟨c0, c1, c2, c3, c4, o0, hfC, hfB⟩ := h.cells
 have w1 : IntKind.i64.wrap ((i : Int) + 1) = (i : Int) + 1 := IntWalk.i64_in _ (by omega)
 have w2 : (0 : Int) ≤ (i : Int) + 1 := by omega
 have w3 : ((i : Int) + 1).toNat = i + 1 := by omega
 have w4 : (i : Int) + 1 ≤ (s.size : Int) := by omega
 have H := Lib.hid h
 have HT := Lib.hid ht
 clear h ht hfC hfB
 go_enter Tryz.func124, Tryz.ntmps124
 go_wp2_with fail
 go_quiet (fail)
 obtain ⟨R, hR⟩ : ∃ R, s.extract (i + 1) s.size = R := ⟨_, rfl⟩
 rw [hR]
 have hRl : R.data.toList = t := by rw [← hR, rest_list, HT.out]
 have hRs : R.size ≤ 16777216 := by rw [← hR]; simp; omega
 clear hR w1 w2 w3 w4
 have hF : Fresh w (w.drewN nq) := (Keeps.refl _ w).drewN nq
 subst ht2
 have hes := esc_any R hRl (r := false) (show sgn 10 = false by decide)
 have hpf := nlp_any R hRl (r := true) (by rw [hasPrefix_cons]; rfl)
 have HES := Lib.hid hes
 have HPF := Lib.hid hpf
 clear hes hpf hRl
 go_wp2_with fail
 refine (HES.out _).mono ?_
 rintro e w2 ⟨rfl, hk2⟩
 have hF2 := hF.tr hk2
 clear hk2
 go_wp2_with fail
 refine (HPF.out _).mono ?_
 rintro e w2' ⟨rfl, rfl⟩
 have hS2 := H.out.fresh hF2
 have htl := tell_any C Bo v vo s i ins p L ⟨11, false, 0, []⟩ _ hS2 (by omega) (by omega)
 have HF2 := Lib.hid hF2
 have HTL : Hid (Calls Tryz.prog 148 #[.pointer (some ⟨C, 0, none⟩), .agg #[.int .i64 11, .bool false, .int .i64 0, .string ⟨#[]⟩]] w2' fun r w' => r = .returned (.tuple #[]) ∧ ∃ v' vo', Scan w' C Bo v' vo' s i ins [] (L ++ flushE p ++ [⟨11, false, 0, []⟩]) ∧ Mv (ScanD C Bo v vo) (ScanD C Bo v' vo') w2' w') := Lib.hid htl
 clear hS2 htl hF2
 go_wp2_with fail
 refine HTL.out.mono ?_
 rintro r w3 ⟨rfl, v3, vo3, hs3, hm3⟩
 have a1 := hs3.cells.2.1
 have af := hs3.cells.2.2.2.2.2.2.1 1
 have hat := hs3.at (i + 2)
 have hmv := ((Mv.fresh HF2.out).trans hm3).at (H.out.lt (.inl rfl)) (.int .i64 ((i + 2 : Nat) : Int))
 have HAT := Lib.hid hat
 have HMV := Lib.hid hmv
 clear hs3 hm3 hat hmv c0 c1 c2 c3 c4 o0
 go_wp2
 go_ret
 exact ⟨rfl, _, _, HAT.out, HMV.out⟩
theorem step_bs (n C Bo : Nat) (v vo : Value) (s : ByteArray) (i : Nat) (ins : Bool) (p : List UInt8) (L : List Ev) (w : World) (h : Scan w C Bo v vo s i ins p L) (hs : s.size ≤ 16777216) (hp : p.length ≤ 16777216)
 (hL : L.length ≤ 1000000000) (t : List UInt8) (hi : i < s.size) (ht : s.data.toList.drop (i + 1) = t) (he : esc t = false) (hpn : Lib.hasPrefix t [10] = false) :
 Calls Tryz.prog 124 #[.pointer (some ⟨C, 0, none⟩), .int .u8 92] w (StepPost n C Bo v vo s i ins p L w (.ch 92, 0)) := by
 obtain ⟨c0, c1, c2, c3, c4, o0, hfC, hfB⟩ := h.cells
 have w1 : IntKind.i64.wrap ((i : Int) + 1) = (i : Int) + 1 := IntWalk.i64_in _ (by omega)
 have w2 : (0 : Int) ≤ (i : Int) + 1 := by omega
 have w3 : ((i : Int) + 1).toNat = i + 1 := by omega
 have w4 : (i : Int) + 1 ≤ (s.size : Int) := by omega
 have H := Lib.hid h
 have HT := Lib.hid ht
 clear h ht hfC hfB
 go_enter Tryz.func124, Tryz.ntmps124
 go_wp2_with fail
 go_quiet (fail)
 obtain ⟨R, hR⟩ : ∃ R, s.extract (i + 1) s.size = R := ⟨_, rfl⟩
 rw [hR]
 have hRl : R.data.toList = t := by rw [← hR, rest_list, HT.out]
 have hRs : R.size ≤ 16777216 := by rw [← hR]; simp; omega
 clear hR w1 w2 w3 w4
 have hF : Fresh w (w.drewN nq) := (Keeps.refl _ w).drewN nq
 have hes := esc_any R hRl he
 have hpf := nlp_any R hRl hpn
 have HES := Lib.hid hes
 have HPF := Lib.hid hpf
 clear hes hpf hRl he hpn
 go_wp2_with fail
 refine (HES.out _).mono ?_
 rintro e w2 ⟨rfl, hk2⟩
 have hF2 := hF.tr hk2
 have HF2 := Lib.hid hF2
 clear hk2 hF2 hF
 go_wp2_with fail
 refine (HPF.out _).mono ?_
 rintro e w2' ⟨rfl, rfl⟩
 go_wp2
 go_ret
 exact ⟨rfl, HF2.out⟩
theorem step_nl (n C Bo : Nat) (v vo : Value) (s : ByteArray) (i : Nat) (ins : Bool) (p : List UInt8) (L : List Ev) (w : World) (h : Scan w C Bo v vo s i ins p L) (hs : s.size ≤ 16777216) (hp : p.length ≤ 16777216)
 (hL : L.length ≤ 1000000000) (t : List UInt8) (hi : i < s.size) (ht : s.data.toList.drop (i + 1) = t) :
 Calls Tryz.prog 124 #[.pointer (some ⟨C, 0, none⟩), .int .u8 10] w (StepPost n C Bo v vo s i ins p L w (.one ⟨10, false, 0, []⟩, 0)) := by
 obtain ⟨c0, c1, c2, c3, c4, o0, hfC, hfB⟩ := h.cells
 have w1 : IntKind.i64.wrap ((i : Int) + 1) = (i : Int) + 1 := IntWalk.i64_in _ (by omega)
 have w2 : (0 : Int) ≤ (i : Int) + 1 := by omega
 have w3 : ((i : Int) + 1).toNat = i + 1 := by omega
 have w4 : (i : Int) + 1 ≤ (s.size : Int) := by omega
 have H := Lib.hid h
 have HT := Lib.hid ht
 clear h ht hfC hfB
 go_enter Tryz.func124, Tryz.ntmps124
 go_wp2_with fail
 go_quiet (fail)
 obtain ⟨R, hR⟩ : ∃ R, s.extract (i + 1) s.size = R := ⟨_, rfl⟩
 rw [hR]
 have hRl : R.data.toList = t := by rw [← hR, rest_list, HT.out]
 have hRs : R.size ≤ 16777216 := by rw [← hR]; simp; omega
 clear hR w1 w2 w3 w4
 have hF : Fresh w (w.drewN nq) := (Keeps.refl _ w).drewN nq
 have hF2 := hF
 clear hRl
 have hS2 := H.out.fresh hF2
 have htl := tell_any C Bo v vo s i ins p L ⟨10, false, 0, []⟩ _ hS2 (by omega) (by omega)
 have HF2 := Lib.hid hF2
 have HTL : Hid (Calls Tryz.prog 148 #[.pointer (some ⟨C, 0, none⟩), .agg #[.int .i64 10, .bool false, .int .i64 0, .string ⟨#[]⟩]] (w.drewN nq) fun r w' => r = .returned (.tuple #[]) ∧ ∃ v' vo', Scan w' C Bo v' vo' s i ins [] (L ++ flushE p ++ [⟨10, false, 0, []⟩]) ∧ Mv (ScanD C Bo v vo) (ScanD C Bo v' vo') (w.drewN nq) w') := Lib.hid htl
 clear hS2 htl hF2
 go_wp2_with fail
 refine HTL.out.mono ?_
 rintro r w3 ⟨rfl, v3, vo3, hs3, hm3⟩
 have a1 := hs3.cells.2.1
 have af := hs3.cells.2.2.2.2.2.2.1 1
 have hat := hs3.at (i + 1)
 have hmv := ((Mv.fresh HF2.out).trans hm3).at (H.out.lt (.inl rfl)) (.int .i64 ((i + 1 : Nat) : Int))
 have HAT := Lib.hid hat
 have HMV := Lib.hid hmv
 clear hs3 hm3 hat hmv c0 c1 c2 c3 c4 o0
 go_wp2
 go_ret
 exact ⟨rfl, _, _, HAT.out, HMV.out⟩
theorem step_code (n C Bo : Nat) (v vo : Value) (s : ByteArray) (i : Nat) (ins : Bool) (p : List UInt8) (L : List Ev) (w : World) (h : Scan w C Bo v vo s i ins p L) (hs : s.size ≤ 16777216) (hp : p.length ≤ 16777216)
 (hL : L.length ≤ 1000000000) (t : List UInt8) (hi : i < s.size) (ht : s.data.toList.drop (i + 1) = t) (k : Nat) (hk : fnd 96 t = some k) (hG : Gl w) :
 Calls Tryz.prog 124 #[.pointer (some ⟨C, 0, none⟩), .int .u8 96] w (StepPost n C Bo v vo s i ins p L w (.one ⟨9, false, 0, spc (t.take k)⟩, k + 1)) := by
 obtain ⟨c0, c1, c2, c3, c4, o0, hfC, hfB⟩ := h.cells
 have w1 : IntKind.i64.wrap ((i : Int) + 1) = (i : Int) + 1 := IntWalk.i64_in _ (by omega)
 have w2 : (0 : Int) ≤ (i : Int) + 1 := by omega
 have w3 : ((i : Int) + 1).toNat = i + 1 := by omega
 have w4 : (i : Int) + 1 ≤ (s.size : Int) := by omega
 have H := Lib.hid h
 have HT := Lib.hid ht
 clear h ht hfC hfB
 go_enter Tryz.func124, Tryz.ntmps124
 go_wp2_with fail
 go_quiet (fail)
 obtain ⟨R, hR⟩ : ∃ R, s.extract (i + 1) s.size = R := ⟨_, rfl⟩
 rw [hR]
 have hRl : R.data.toList = t := by rw [← hR, rest_list, HT.out]
 have hRs : R.size ≤ 16777216 := by rw [← hR]; simp; omega
 clear hR w1 w2 w3 w4
 have hF : Fresh w (w.drewN nq) := (Keeps.refl _ w).drewN nq
 have hct := cut_any (c := 96) R hRl hRs (t.take k) (t.drop (k + 1)) true (cut_some hk) (w.drewN nq) (hG.fresh hF)
 have hkl := fnd_lt hk
 have htl : t.length = R.size := by rw [← hRl]; simp
 obtain ⟨A, hA⟩ : ∃ A : ByteArray, ⟨(t.take k).toArray⟩ = A := ⟨_, rfl⟩
 rw [hA] at hct
 have hAl : A.data.toList = t.take k := by rw [← hA]
 have hAs : A.size = k := by have : A.data.toList.length = k := by rw [hAl, List.length_take]; omega
                             simpa using this
 have hki : i + k + 2 ≤ s.size := by
  have : (s.data.toList.drop (i + 1)).length = t.length := by rw [HT.out]
  simp at this
  omega
 have hsp := fun W hG => spaces_any A (by omega) W hG
 rw [hAl] at hsp
 have HCT := Lib.hid hct
 have HSP := Lib.hid hsp
 have HG := Lib.hid hG
 clear hct hsp hA hAl hk hkl htl hG hRl
 go_wp2_with fail
 refine HCT.out.mono ?_
 rintro e w2' ⟨rfl, hk2⟩
 have hF3 := hF.tr hk2
 have HF3 := Lib.hid hF3
 clear hk2 hF3 hF
 go_wp2_with fail
 refine (HSP.out _ (HG.out.fresh HF3.out)).mono ?_
 rintro e w2 ⟨rfl, hk3⟩
 have hF2 := HF3.out.tr hk3
 clear hk3
 have hS2 := H.out.fresh hF2
 have htl := tell_any C Bo v vo s i ins p L ⟨9, false, 0, spc (t.take k)⟩ _ hS2 (by omega) (by omega)
 have HF2 := Lib.hid hF2
 have HTL : Hid (Calls Tryz.prog 148 #[.pointer (some ⟨C, 0, none⟩), .agg #[.int .i64 9, .bool false, .int .i64 0, .string ⟨(spc (t.take k)).toArray⟩]] w2 fun r w' => r = .returned (.tuple #[]) ∧ ∃ v' vo', Scan w' C Bo v' vo' s i ins [] (L ++ flushE p ++ [⟨9, false, 0, spc (t.take k)⟩]) ∧ Mv (ScanD C Bo v vo) (ScanD C Bo v' vo') w2 w') := Lib.hid htl
 clear hS2 htl hF2
 go_wp2_with fail
 refine HTL.out.mono ?_
 rintro r w3 ⟨rfl, v3, vo3, hs3, hm3⟩
 have a1 := hs3.cells.2.1
 have af := hs3.cells.2.2.2.2.2.2.1 1
 have hat := hs3.at (i + (k + 2))
 have hmv := ((Mv.fresh HF2.out).trans hm3).at (H.out.lt (.inl rfl)) (.int .i64 ((i + (k + 2) : Nat) : Int))
 have HAT := Lib.hid hat
 have HMV := Lib.hid hmv
 clear hs3 hm3 hat hmv c0 c1 c2 c3 c4 o0
 go_wp2
 go_ret
 exact ⟨rfl, _, _, HAT.out, HMV.out⟩
theorem step_code_no (n C Bo : Nat) (v vo : Value) (s : ByteArray) (i : Nat) (ins : Bool) (p : List UInt8) (L : List Ev) (w : World) (h : Scan w C Bo v vo s i ins p L) (hs : s.size ≤ 16777216) (hp : p.length ≤ 16777216)
 (hL : L.length ≤ 1000000000) (t : List UInt8) (hi : i < s.size) (ht : s.data.toList.drop (i + 1) = t) (hk : fnd 96 t = none) (hG : Gl w) :
 Calls Tryz.prog 124 #[.pointer (some ⟨C, 0, none⟩), .int .u8 96] w (StepPost n C Bo v vo s i ins p L w (.ch 96, 0)) := by
 obtain ⟨c0, c1, c2, c3, c4, o0, hfC, hfB⟩ := h.cells
 have w1 : IntKind.i64.wrap ((i : Int) + 1) = (i : Int) + 1 := IntWalk.i64_in _ (by omega)
 have w2 : (0 : Int) ≤ (i : Int) + 1 := by omega
 have w3 : ((i : Int) + 1).toNat = i + 1 := by omega
 have w4 : (i : Int) + 1 ≤ (s.size : Int) := by omega
 have H := Lib.hid h
 have HT := Lib.hid ht
 clear h ht hfC hfB
 go_enter Tryz.func124, Tryz.ntmps124
 go_wp2_with fail
 go_quiet (fail)
 obtain ⟨R, hR⟩ : ∃ R, s.extract (i + 1) s.size = R := ⟨_, rfl⟩
 rw [hR]
 have hRl : R.data.toList = t := by rw [← hR, rest_list, HT.out]
 have hRs : R.size ≤ 16777216 := by rw [← hR]; simp; omega
 clear hR w1 w2 w3 w4
 have hF : Fresh w (w.drewN nq) := (Keeps.refl _ w).drewN nq
 have hct := cut_any (c := 96) R hRl hRs t [] false (cut_none hk) (w.drewN nq) (hG.fresh hF)
 have HCT := Lib.hid hct
 have HF := Lib.hid hF
 clear hct hk hG hRl hF
 go_wp2_with fail
 refine HCT.out.mono ?_
 rintro e w2' ⟨rfl, hk2⟩
 have HK2 := Lib.hid hk2
 clear hk2
 go_wp2
 go_ret
 exact ⟨rfl, HF.out.tr HK2.out⟩
theorem step_other (n C Bo : Nat) (v vo : Value) (s : ByteArray) (i : Nat) (ins : Bool) (p : List UInt8) (L : List Ev) (w : World) (h : Scan w C Bo v vo s i ins p L) (hs : s.size ≤ 16777216) (hp : p.length ≤ 16777216)
 (hL : L.length ≤ 1000000000) (t : List UInt8) (hi : i < s.size) (ht : s.data.toList.drop (i + 1) = t) (b : UInt8) (b1 : b ≠ 92) (b2 : b ≠ 10) (b3 : b ≠ 96) (b4 : b ≠ 91) (b5 : b ≠ 42) :
 Calls Tryz.prog 124 #[.pointer (some ⟨C, 0, none⟩), .int .u8 b.toNat] w (StepPost n C Bo v vo s i ins p L w (.ch b, 0)) := by
 obtain ⟨c0, c1, c2, c3, c4, o0, hfC, hfB⟩ := h.cells
 have w1 : IntKind.i64.wrap ((i : Int) + 1) = (i : Int) + 1 := IntWalk.i64_in _ (by omega)
 have w2 : (0 : Int) ≤ (i : Int) + 1 := by omega
 have w3 : ((i : Int) + 1).toNat = i + 1 := by omega
 have w4 : (i : Int) + 1 ≤ (s.size : Int) := by omega
 have H := Lib.hid h
 have HT := Lib.hid ht
 clear h ht hfC hfB
 have q1 : (((b).toNat : Int) == 92) = false := (u8_beq b 92).trans (decide_eq_false b1)
 have q2 : (((b).toNat : Int) == 10) = false := (u8_beq b 10).trans (decide_eq_false b2)
 have q3 : (((b).toNat : Int) == 96) = false := (u8_beq b 96).trans (decide_eq_false b3)
 have q4 : (((b).toNat : Int) == 91) = false := (u8_beq b 91).trans (decide_eq_false b4)
 have q5 : (((b).toNat : Int) == 42) = false := (u8_beq b 42).trans (decide_eq_false b5)
 clear b1 b2 b3 b4 b5
 go_enter Tryz.func124, Tryz.ntmps124
 go_wp2_with fail
 go_quiet (fail)
 obtain ⟨R, hR⟩ : ∃ R, s.extract (i + 1) s.size = R := ⟨_, rfl⟩
 rw [hR]
 have hRl : R.data.toList = t := by rw [← hR, rest_list, HT.out]
 have hRs : R.size ≤ 16777216 := by rw [← hR]; simp; omega
 clear hR w1 w2 w3 w4
 have hF : Fresh w (w.drewN nq) := (Keeps.refl _ w).drewN nq
 have HF := Lib.hid hF
 clear hRl hF
 go_wp2
 go_ret
 exact ⟨rfl, HF.out⟩
end Go.Proofs.YtbioecifiogffaaGreatDoor
namespace Go.Proofs.YtbioecifiogffaaGreatDoor
open Go.RowKit
theorem has_any {l : List UInt8} {c : UInt8} {r : Bool} (R : ByteArray) (hR : R.data.toList = l) (h : (fnd c l).isSome = r) : ∀ W : World, Calls Tryz.prog 181 #[.string R, .string ⟨#[c]⟩] W fun e w' => e = .returned (.bool r) ∧ w' = W := fun W => by
 have := Tryz.strings_Contains_one R c W
 rw [hR, contains_fnd, h] at this
 exact this
theorem pre_any {l : List UInt8} {c : UInt8} {r : Bool} (R : ByteArray) (hR : R.data.toList = l) (h : Lib.hasPrefix l [c] = r) : ∀ W : World, Calls Tryz.prog 134 #[.string R, .string ⟨#[c]⟩] W fun e w' => e = .returned (.bool r) ∧ w' = W := fun W => by
 have := Tryz.strings_HasPrefix R ⟨#[c]⟩ W
 rw [hR, show (⟨#[c]⟩ : ByteArray).data.toList = [c] from rfl, h] at this
 exact this
theorem ba_scn (l : List UInt8) : ∃ A : ByteArray, (⟨l.toArray⟩ : ByteArray) = A ∧ A.data.toList = l ∧ A.size = l.length := ⟨_, rfl, rfl, by simp [ByteArray.size]⟩
def LinkNo (w : World) (r : Ending) (w' : World) : Prop := r = .returned (.bool false) ∧ Fresh w w'
theorem link_no0 (R : ByteArray) (t : List UInt8) (hRl : R.data.toList = t) (hRs : R.size ≤ 16777216) (w : World) (hG : Gl w) (C : Nat) (hk : fnd 93 t = none) :
 Calls Tryz.prog 150 #[.pointer (some ⟨C, 0, none⟩), .string R] w (LinkNo w) := by
 have hct := cut_any (c := 93) R hRl hRs t [] false (cut_none hk) w hG
 have HCT := Lib.hid hct
 clear hct hk hG hRl
 go_enter Tryz.func150, Tryz.ntmps150
 go_wp2_with fail
 refine HCT.out.mono ?_
 rintro e w1 ⟨rfl, hk1⟩
 have HK1 := Lib.hid hk1
 clear hk1
 go_wp2
 go_ret
 exact ⟨rfl, HK1.out⟩
theorem link_no1 (R : ByteArray) (t : List UInt8) (hRl : R.data.toList = t) (hRs : R.size ≤ 16777216) (w : World) (hG : Gl w) (C : Nat) (k : Nat) (hk : fnd 93 t = some k) (h1 : (fnd 91 (t.take k)).isSome = true) :
 Calls Tryz.prog 150 #[.pointer (some ⟨C, 0, none⟩), .string R] w (LinkNo w) := by
 have hct := cut_any (c := 93) R hRl hRs (t.take k) (t.drop (k + 1)) true (cut_some hk) w hG
 obtain ⟨A, hA, hAl, hAs⟩ := ba_scn (t.take k)
 obtain ⟨B, hB, hBl, hBs⟩ := ba_scn (t.drop (k + 1))
 rw [hA, hB] at hct
 have HCT := Lib.hid hct
 clear hct hA hB
 have hh := has_any A hAl h1
 have HH := Lib.hid hh
 clear hh hk hG hRl h1 hAl hAs hBl hBs
 go_enter Tryz.func150, Tryz.ntmps150
 go_wp2_with fail
 refine HCT.out.mono ?_
 rintro e w1 ⟨rfl, hk1⟩
 have HK1 := Lib.hid hk1
 clear hk1
 go_wp2_with fail
 refine (HH.out _).mono ?_
 rintro e w2 ⟨rfl, rfl⟩
 go_wp2
 go_ret
 exact ⟨rfl, HK1.out⟩
theorem link_no2 (R : ByteArray) (t : List UInt8) (hRl : R.data.toList = t) (hRs : R.size ≤ 16777216) (w : World) (hG : Gl w) (C : Nat) (k : Nat) (hk : fnd 93 t = some k) (h1 : (fnd 91 (t.take k)).isSome = false) (h2 : Lib.hasPrefix (t.drop (k + 1)) [40] = false) :
 Calls Tryz.prog 150 #[.pointer (some ⟨C, 0, none⟩), .string R] w (LinkNo w) := by
 have hct := cut_any (c := 93) R hRl hRs (t.take k) (t.drop (k + 1)) true (cut_some hk) w hG
 obtain ⟨A, hA, hAl, hAs⟩ := ba_scn (t.take k)
 obtain ⟨B, hB, hBl, hBs⟩ := ba_scn (t.drop (k + 1))
 rw [hA, hB] at hct
 have HCT := Lib.hid hct
 clear hct hA hB
 have hh := has_any A hAl h1
 have hp := pre_any B hBl h2
 have HH := Lib.hid hh
 have HP := Lib.hid hp
 clear hh hp hk hG hRl h1 h2 hAl hAs hBl hBs
 go_enter Tryz.func150, Tryz.ntmps150
 go_wp2_with fail
 refine HCT.out.mono ?_
 rintro e w1 ⟨rfl, hk1⟩
 have HK1 := Lib.hid hk1
 clear hk1
 go_wp2_with fail
 refine (HH.out _).mono ?_
 rintro e w2 ⟨rfl, rfl⟩
 go_wp2_with fail
 refine (HP.out _).mono ?_
 rintro e w3 ⟨rfl, rfl⟩
 go_wp2
 go_ret
 exact ⟨rfl, HK1.out⟩
theorem link_no3 (R : ByteArray) (t : List UInt8) (hRl : R.data.toList = t) (hRs : R.size ≤ 16777216) (w : World) (hG : Gl w) (C : Nat) (k : Nat) (hk : fnd 93 t = some k) (h1 : (fnd 91 (t.take k)).isSome = false) (r : List UInt8) (hd : t.drop (k + 1) = 40 :: r) (hj : Lib.indexAny r [41, 32, 9, 10, 40] = -1) :
 Calls Tryz.prog 150 #[.pointer (some ⟨C, 0, none⟩), .string R] w (LinkNo w) := by
 have hct := cut_any (c := 93) R hRl hRs (t.take k) (t.drop (k + 1)) true (cut_some hk) w hG
 obtain ⟨A, hA, hAl, hAs⟩ := ba_scn (t.take k)
 obtain ⟨B, hB, hBl, hBs⟩ := ba_scn (t.drop (k + 1))
 rw [hA, hB] at hct
 have HCT := Lib.hid hct
 clear hct hA hB
 have hB0 : 0 < B.size := by rw [hBs, hd]; simp
 have hrl : r.length + 1 = B.size := by rw [hBs, hd]; simp
 have hBl2 : (B.extract 1 B.size).data.toList = r := by rw [rest_list, hBl, hd]; rfl
 have hBsz : B.size ≤ 16777216 := by
  have : t.length = R.size := by rw [← hRl]; simp
  rw [hBs, List.length_drop]
  omega
 have hh := has_any A hAl h1
 have hp := pre_any B hBl (c := 40) (r := true) (by rw [hd, hasPrefix_cons]; rfl)
 have hx := fun W : World => idxAny_any (B.extract 1 B.size) W (by simp; omega)
 rw [hBl2] at hx
 rw [hj] at hx
 have HH := Lib.hid hh
 have HP := Lib.hid hp
 have HX := Lib.hid hx
 have hB1 : (1 : Int) ≤ (B.size : Int) := by omega
 clear hh hp hx hk hG hRl h1 hAl hAs hBl hBs hd hj hrl hBl2
 go_enter Tryz.func150, Tryz.ntmps150
 go_wp2_with fail
 refine HCT.out.mono ?_
 rintro e w1 ⟨rfl, hk1⟩
 have HK1 := Lib.hid hk1
 clear hk1
 go_wp2_with fail
 refine (HH.out _).mono ?_
 rintro e w2 ⟨rfl, rfl⟩
 go_wp2_with fail
 refine (HP.out _).mono ?_
 rintro e w3 ⟨rfl, rfl⟩
 go_wp2_with fail
 refine (HX.out _).mono ?_
 rintro e w4 ⟨rfl, hk4⟩
 have HK4 := Lib.hid hk4
 clear hk4
 go_wp2
 go_ret
 exact ⟨rfl, HK1.out.tr HK4.out⟩
theorem link_no4 (R : ByteArray) (t : List UInt8) (hRl : R.data.toList = t) (hRs : R.size ≤ 16777216) (w : World) (hG : Gl w) (C : Nat) (k : Nat) (hk : fnd 93 t = some k) (h1 : (fnd 91 (t.take k)).isSome = false) (r : List UInt8) (hd : t.drop (k + 1) = 40 :: r) (m : Nat) (hj : Lib.indexAny r [41, 32, 9, 10, 40] = (m : Int)) (hm : m < r.length) (x : UInt8) (hxm : r[m]? = some x) (hx41 : x ≠ 41) :
 Calls Tryz.prog 150 #[.pointer (some ⟨C, 0, none⟩), .string R] w (LinkNo w) := by
 have hct := cut_any (c := 93) R hRl hRs (t.take k) (t.drop (k + 1)) true (cut_some hk) w hG
 obtain ⟨A, hA, hAl, hAs⟩ := ba_scn (t.take k)
 obtain ⟨B, hB, hBl, hBs⟩ := ba_scn (t.drop (k + 1))
 rw [hA, hB] at hct
 have HCT := Lib.hid hct
 clear hct hA hB
 have hB0 : 0 < B.size := by rw [hBs, hd]; simp
 have hrl : r.length + 1 = B.size := by rw [hBs, hd]; simp
 have hBl2 : (B.extract 1 B.size).data.toList = r := by rw [rest_list, hBl, hd]; rfl
 have hBsz : B.size ≤ 16777216 := by
  have : t.length = R.size := by rw [← hRl]; simp
  rw [hBs, List.length_drop]
  omega
 have hh := has_any A hAl h1
 have hp := pre_any B hBl (c := 40) (r := true) (by rw [hd, hasPrefix_cons]; rfl)
 have hx := fun W : World => idxAny_any (B.extract 1 B.size) W (by simp; omega)
 rw [hBl2] at hx
 rw [hj] at hx
 have hm1 : 1 + m < B.size := by omega
 have hBm : B[1 + m]'hm1 = x := by
  have h5 : B.data.toList[1 + m]? = some x := by rw [hBl, hd, show 1 + m = m + 1 by omega]; simpa using hxm
  rw [List.getElem?_eq_some_iff] at h5
  obtain ⟨_, h6⟩ := h5
  rw [← h6]
  simp [ByteArray.getElem_eq_getElem_data]
 have hw1 : IntKind.i64.wrap (1 + (m : Int)) = 1 + (m : Int) := IntWalk.i64_in _ (by omega)
 have hw2 : (0 : Int) ≤ 1 + (m : Int) := by omega
 have hw3 : (1 + (m : Int)).toNat = 1 + m := by omega
 have hw4 : 1 + (m : Int) < (B.size : Int) := by omega
 have hq : (((x.toNat : Int)) != 41) = true := by
  rw [bne_iff_ne]
  intro e
  exact hx41 (UInt8.toNat_inj.1 (by have : ((41 : UInt8)).toNat = 41 := rfl; omega))
 have HH := Lib.hid hh
 have HP := Lib.hid hp
 have HX := Lib.hid hx
 have hB1 : (1 : Int) ≤ (B.size : Int) := by omega
 clear hh hp hx hk hG hRl h1 hAl hAs hBl hBs hd hj hrl hBl2 hxm hx41
 go_enter Tryz.func150, Tryz.ntmps150
 go_wp2_with fail
 refine HCT.out.mono ?_
 rintro e w1 ⟨rfl, hk1⟩
 have HK1 := Lib.hid hk1
 clear hk1
 go_wp2_with fail
 refine (HH.out _).mono ?_
 rintro e w2 ⟨rfl, rfl⟩
 go_wp2_with fail
 refine (HP.out _).mono ?_
 rintro e w3 ⟨rfl, rfl⟩
 go_wp2_with fail
 refine (HX.out _).mono ?_
 rintro e w4 ⟨rfl, hk4⟩
 have HK4 := Lib.hid hk4
 clear hk4
 go_wp2
 go_ret
 exact ⟨rfl, HK1.out.tr HK4.out⟩
end Go.Proofs.YtbioecifiogffaaGreatDoor
namespace Go.Proofs.YtbioecifiogffaaGreatDoor
open Go.RowKit
theorem link_yes (n : Nat) (IH : PartOK n) (R : ByteArray) (t : List UInt8) (hRl : R.data.toList = t) (hRs : R.size ≤ 16777216) (w : World) (hG : Gl w) (C Bo : Nat) (v vo : Value) (s : ByteArray) (i : Nat) (ins : Bool) (p : List UInt8) (L : List Ev) (h : Scan w C Bo v vo s i ins p L) (hH : Hi (ScanD C Bo v vo))
 (hp : p.length ≤ 16777216) (hts : t.length + i + 1 = s.size) (hs : s.size ≤ 16777216) (hn : t.length ≤ n) (hL : L.length + (flushE p).length + 1 + 2 * t.length ≤ 1000000000)
 (k : Nat) (hk : fnd 93 t = some k) (h1 : (fnd 91 (t.take k)).isSome = false) (r : List UInt8) (hd : t.drop (k + 1) = 40 :: r) (m : Nat) (hj : Lib.indexAny r [41, 32, 9, 10, 40] = (m : Int)) (hm : m < r.length) (hxm : r[m]? = some 41) :
 Calls Tryz.prog 150 #[.pointer (some ⟨C, 0, none⟩), .string R] w fun e w' => e = .returned (.bool true) ∧ ∃ v' vo', Scan w' C Bo v' vo' s (i + (k + m + 3) + 1) ins [] (L ++ flushE p ++ ⟨7, false, 0, (t.drop (k + 2)).take m⟩ :: (inlF n ins (t.take k) [] ++ [endE ⟨7, false, 0, (t.drop (k + 2)).take m⟩])) ∧ Mv (ScanD C Bo v vo) (ScanD C Bo v' vo') w w' := by
 have hct := cut_any (c := 93) R hRl hRs (t.take k) (t.drop (k + 1)) true (cut_some hk) w hG
 have hkl := fnd_lt hk
 obtain ⟨A, hA, hAl, hAs⟩ := ba_scn (t.take k)
 obtain ⟨B, hB, hBl, hBs⟩ := ba_scn (t.drop (k + 1))
 rw [hA, hB] at hct
 have HCT := Lib.hid hct
 clear hct hA hB
 have hAk : A.size = k := by rw [hAs, List.length_take]; omega
 have hB0 : 0 < B.size := by rw [hBs, hd]; simp
 have hrl : r.length + 1 = B.size := by rw [hBs, hd]; simp
 have hBt : B.size + k + 1 = t.length := by rw [hBs, List.length_drop]; omega
 have hBl2 : (B.extract 1 B.size).data.toList = r := by rw [rest_list, hBl, hd]; rfl
 have hBsz : B.size ≤ 16777216 := by omega
 have hh := has_any A hAl h1
 have hp' := pre_any B hBl (c := 40) (r := true) (by rw [hd, hasPrefix_cons]; rfl)
 have hx := fun W : World => idxAny_any (B.extract 1 B.size) W (by simp; omega)
 rw [hBl2, hj] at hx
 have hm1 : 1 + m < B.size := by omega
 have hBm : B[1 + m]'hm1 = 41 := by
  have h5 : B.data.toList[1 + m]? = some 41 := by rw [hBl, hd, show 1 + m = m + 1 by omega]; simpa using hxm
  rw [List.getElem?_eq_some_iff] at h5
  obtain ⟨_, h6⟩ := h5
  rw [← h6]
  simp [ByteArray.getElem_eq_getElem_data]
 have hw1 : IntKind.i64.wrap (1 + (m : Int)) = 1 + (m : Int) := IntWalk.i64_in _ (by omega)
 have hw2 : (0 : Int) ≤ 1 + (m : Int) := by omega
 have hw3 : (1 + (m : Int)).toNat = 1 + m := by omega
 have hw4 : 1 + (m : Int) ≤ (B.size : Int) := by omega
 have hw5 : (1 : Int) ≤ 1 + (m : Int) := by omega
 have hB1 : (1 : Int) ≤ (B.size : Int) := by omega
 have hdst : (B.extract 1 (1 + m)) = ⟨((t.drop (k + 2)).take m).toArray⟩ := by
  apply ByteArray.ext
  rw [ByteArray.data_extract]
  apply Array.ext'
  rw [Array.toList_extract, List.extract_eq_take_drop, hBl, List.drop_drop]
  rw [show 1 + m - 1 = m by omega]
 have HH := Lib.hid hh
 have HP := Lib.hid hp'
 have HX := Lib.hid hx
 have HIH := Lib.hid IH
 have HG := Lib.hid hG
 have HH2 := Lib.hid hH
 have H := Lib.hid h
 have HAL := Lib.hid hAl
 clear hh hp' hx hk hG hRl h1 hAl hAs hBl hBs hd hj hrl hBl2 hxm IH h hH
 go_enter Tryz.func150, Tryz.ntmps150
 go_wp2_with fail
 refine HCT.out.mono ?_
 rintro e w1 ⟨rfl, hk1⟩
 have HK1 := Lib.hid hk1
 clear hk1
 go_wp2_with fail
 refine (HH.out _).mono ?_
 rintro e w2 ⟨rfl, rfl⟩
 go_wp2_with fail
 refine (HP.out _).mono ?_
 rintro e w3 ⟨rfl, rfl⟩
 go_wp2_with fail
 refine (HX.out _).mono ?_
 rintro e w4 ⟨rfl, hk4⟩
 have hF := HK1.out.tr hk4
 have hs0 := (H.out.fresh hF).cells.2.2.1
 have har := around_any n HIH.out C Bo v vo s i ins p L ⟨7, false, 0, (t.drop (k + 2)).take m⟩ A ins _ (H.out.fresh hF.drew) (HG.out.fresh hF.drew) HH2.out hp (by omega) (by omega) (by omega)
 rw [← hdst] at har
 have HAR := Lib.hid har
 have HF := Lib.hid hF
 clear hF hk4 har hdst
 go_upto_region 7 with fail
 refine wp_region_K 11 (fun W => W.cell? ⟨C, 2, none⟩ = some (.bool ins)) (by kernel_rfl) ?_
 have hHeld : w4.drew.cell? ⟨C, 2, none⟩ = some (.bool ins) := hs0
 refine K_is [0, 1, 2, 3, 4, 5, 6, 7, 8, 9, 10] ?_
 iterate 11 (refine K_y (v := ?_) rfl (by kernel_rfl) (fun _ _ _ h => h) (by rfl) ?_ (by assumption) ?_; rotate_left; (· intro _ hSw; (try dsimp only at hSw); first | (go_simp; done) | (go_simp; with_reducible rfl)); try simp only [Act.put, List.setIfInBounds_toArray, List.set_cons_zero, List.set_cons_succ])
 refine K_no ?_
 refine K_last (by kernel_rfl) rfl (fun K hK => ?_)
 go_simp
 refine HAR.out.mono ?_
 rintro e w5 ⟨rfl, v5, vo5, hs5, hm5⟩
 refine hK.out _ _ ?_
 clear hK K hHeld
 try simp only [Act.put, List.setIfInBounds_toArray, List.set_cons_zero, List.set_cons_succ]
 refine K_done (by kernel_rfl) ?_ _
 rw [HAL.out] at hs5
 have a1 := hs5.cells.2.1
 have af := hs5.cells.2.2.2.2.2.2.1 1
 have hat := hs5.at (i + (k + m + 4))
 have hmv := ((Mv.fresh HF.out.drew).trans hm5).at (H.out.lt (.inl rfl)) (.int .i64 ((i + (k + m + 4) : Nat) : Int))
 have HAT := Lib.hid hat
 have HMV := Lib.hid hmv
 clear hs5 hm5 hat hmv hs0 hw1 hw2 hw3 hw4 hw5 hB1 hBm
 go_wp2
 go_ret
 exact ⟨rfl, _, _, by rw [show i + (k + m + 3) + 1 = i + (k + m + 4) by omega]; exact HAT.out, HMV.out⟩
end Go.Proofs.YtbioecifiogffaaGreatDoor
namespace Go.Proofs.YtbioecifiogffaaGreatDoor
open Go.RowKit
theorem hasPrefix_drop {l : List UInt8} (h : ∀ r, l ≠ 40 :: r) : Lib.hasPrefix l [40] = false := by
 cases l with
 | nil => rfl
 | cons b t =>
  rw [hasPrefix_cons]
  refine decide_eq_false (fun e => ?_)
  subst e
  exact h t rfl
theorem link_none (R : ByteArray) (t : List UInt8) (hRl : R.data.toList = t) (hRs : R.size ≤ 16777216) (w : World) (hG : Gl w) (C : Nat) (h : lnk t = none) :
 Calls Tryz.prog 150 #[.pointer (some ⟨C, 0, none⟩), .string R] w (LinkNo w) := by
 unfold lnk at h
 cases hk : fnd 93 t with
 | none => exact link_no0 R t hRl hRs w hG C hk
 | some k =>
  rw [hk] at h
  simp only at h
  cases h1 : (fnd 91 (t.take k)).isSome with
  | true => exact link_no1 R t hRl hRs w hG C k hk h1
  | false =>
   rw [h1] at h
   simp only [Bool.false_eq_true, if_false] at h
   by_cases hd : ∃ r, t.drop (k + 1) = 40 :: r
   ·obtain ⟨r, hd⟩ := hd
    rw [hd] at h
    simp only [if_true, Option.map_eq_none_iff] at h
    rcases indexAny_dst r with ⟨-, hj | ⟨m, hj, hm, hx⟩⟩ | ⟨m, hm, -, -⟩
    ·exact link_no3 R t hRl hRs w hG C k hk h1 r hd hj
    ·exact link_no4 R t hRl hRs w hG C k hk h1 r hd m hj hm r[m] (List.getElem?_eq_getElem hm) (fun e => hx (by rw [List.getElem?_eq_getElem hm, e]))
    ·rw [hm] at h; cases h
   ·exact link_no2 R t hRl hRs w hG C k hk h1 (hasPrefix_drop (fun r e => hd ⟨r, e⟩))
theorem lnk_cases {t : List UInt8} {k m : Nat} (h : lnk t = some (k, m)) : fnd 93 t = some k ∧ (fnd 91 (t.take k)).isSome = false ∧ ∃ r, t.drop (k + 1) = 40 :: r ∧ Lib.indexAny r [41, 32, 9, 10, 40] = (m : Int) ∧ m < r.length ∧ r[m]? = some 41 := by
 unfold lnk at h
 cases hk : fnd 93 t with
 | none => rw [hk] at h; cases h
 | some k' =>
  rw [hk] at h
  simp only at h
  cases h1 : (fnd 91 (t.take k')).isSome with
  | true => rw [h1] at h; simp at h
  | false =>
   rw [h1] at h
   simp only [Bool.false_eq_true, if_false] at h
   cases hd : t.drop (k' + 1) with
   | nil => rw [hd] at h; cases h
   | cons c r =>
    rw [hd] at h
    by_cases hc : c = 40
    ·subst hc
     simp only [if_true, Option.map_eq_some_iff, Prod.mk.injEq] at h
     obtain ⟨m', hm, rfl, rfl⟩ := h
     refine ⟨rfl, h1, r, hd, ?_⟩
     rcases indexAny_dst r with ⟨hn, _⟩ | ⟨m, hm2, hj, hx⟩
     ·rw [hn] at hm; cases hm
     ·rw [hm] at hm2
      cases hm2
      exact ⟨hj, dst_lt hm, hx⟩
    ·simp [hc] at h
theorem step_link_no (n C Bo : Nat) (v vo : Value) (s : ByteArray) (i : Nat) (ins : Bool) (p : List UInt8) (L : List Ev) (w : World) (h : Scan w C Bo v vo s i ins p L) (hs : s.size ≤ 16777216) (hp : p.length ≤ 16777216)
 (hL : L.length ≤ 1000000000) (t : List UInt8) (hi : i < s.size) (ht : s.data.toList.drop (i + 1) = t) (hG : Gl w) (hl : lnk t = none) :
 Calls Tryz.prog 124 #[.pointer (some ⟨C, 0, none⟩), .int .u8 91] w (StepPost n C Bo v vo s i ins p L w (.ch 91, 0)) := by
 obtain ⟨c0, c1, c2, c3, c4, o0, hfC, hfB⟩ := h.cells
 have w1 : IntKind.i64.wrap ((i : Int) + 1) = (i : Int) + 1 := IntWalk.i64_in _ (by omega)
 have w2 : (0 : Int) ≤ (i : Int) + 1 := by omega
 have w3 : ((i : Int) + 1).toNat = i + 1 := by omega
 have w4 : (i : Int) + 1 ≤ (s.size : Int) := by omega
 have H := Lib.hid h
 have HT := Lib.hid ht
 clear h ht hfC hfB
 go_enter Tryz.func124, Tryz.ntmps124
 go_wp2_with fail
 go_quiet (fail)
 obtain ⟨R, hR⟩ : ∃ R, s.extract (i + 1) s.size = R := ⟨_, rfl⟩
 rw [hR]
 have hRl : R.data.toList = t := by rw [← hR, rest_list, HT.out]
 have hRs : R.size ≤ 16777216 := by rw [← hR]; simp; omega
 clear hR w1 w2 w3 w4
 have hF : Fresh w (w.drewN nq) := (Keeps.refl _ w).drewN nq
 have hlk := link_none R t hRl hRs (w.drewN nq) (hG.fresh hF) C hl
 have HLK := Lib.hid hlk
 have HF := Lib.hid hF
 clear hlk hF hRl hl hG
 go_wp2_with fail
 refine HLK.out.mono ?_
 rintro e w2 ⟨rfl, hk2⟩
 have HK2 := Lib.hid hk2
 clear hk2
 go_wp2
 go_ret
 exact ⟨rfl, HF.out.tr HK2.out⟩
theorem step_link (n C Bo : Nat) (v vo : Value) (s : ByteArray) (i : Nat) (ins : Bool) (p : List UInt8) (L : List Ev) (w : World) (h : Scan w C Bo v vo s i ins p L) (hs : s.size ≤ 16777216) (hp : p.length ≤ 16777216)
 (hL : L.length ≤ 1000000000) (t : List UInt8) (hi : i < s.size) (ht : s.data.toList.drop (i + 1) = t) (hH : Hi (ScanD C Bo v vo)) (IH : PartOK n) (hn : t.length ≤ n) (hLL : L.length + (flushE p).length + 1 + 2 * t.length ≤ 1000000000) (hG : Gl w) (k m : Nat) (hl : lnk t = some (k, m)) :
 Calls Tryz.prog 124 #[.pointer (some ⟨C, 0, none⟩), .int .u8 91] w (StepPost n C Bo v vo s i ins p L w (.sub ⟨7, false, 0, (t.drop (k + 2)).take m⟩ (t.take k) ins, k + m + 3)) := by
 obtain ⟨c0, c1, c2, c3, c4, o0, hfC, hfB⟩ := h.cells
 have w1 : IntKind.i64.wrap ((i : Int) + 1) = (i : Int) + 1 := IntWalk.i64_in _ (by omega)
 have w2 : (0 : Int) ≤ (i : Int) + 1 := by omega
 have w3 : ((i : Int) + 1).toNat = i + 1 := by omega
 have w4 : (i : Int) + 1 ≤ (s.size : Int) := by omega
 have H := Lib.hid h
 have HT := Lib.hid ht
 clear h ht hfC hfB
 go_enter Tryz.func124, Tryz.ntmps124
 go_wp2_with fail
 go_quiet (fail)
 obtain ⟨R, hR⟩ : ∃ R, s.extract (i + 1) s.size = R := ⟨_, rfl⟩
 rw [hR]
 have hRl : R.data.toList = t := by rw [← hR, rest_list, HT.out]
 have hRs : R.size ≤ 16777216 := by rw [← hR]; simp; omega
 clear hR w1 w2 w3 w4
 have hF : Fresh w (w.drewN nq) := (Keeps.refl _ w).drewN nq
 have hts : t.length + i + 1 = s.size := by
  have h5 : (s.data.toList.drop (i + 1)).length = t.length := by rw [HT.out]
  simp at h5
  omega
 obtain ⟨l1, l2, r, l3, l4, l5, l6⟩ := lnk_cases hl
 have hlk := link_yes n IH R t hRl hRs (w.drewN nq) (hG.fresh hF) C Bo v vo s i ins p L (H.out.fresh hF) hH hp hts hs hn hLL k l1 l2 r l3 m l4 l5 l6
 have HLK := Lib.hid hlk
 have HF := Lib.hid hF
 clear hlk hF hRl hl hG IH hH l1 l2 l3 l4 l5 l6
 go_wp2_with fail
 refine HLK.out.mono ?_
 rintro e w2 ⟨rfl, v2, vo2, hs2, hm2⟩
 have HS2 := Lib.hid hs2
 have HM2 := Lib.hid hm2
 clear hs2 hm2
 go_wp2
 go_ret
 exact ⟨rfl, _, _, HS2.out, (Mv.fresh HF.out).trans HM2.out⟩
theorem step_star_in (n C Bo : Nat) (v vo : Value) (s : ByteArray) (i : Nat) (ins : Bool) (p : List UInt8) (L : List Ev) (w : World) (h : Scan w C Bo v vo s i ins p L) (hs : s.size ≤ 16777216) (hp : p.length ≤ 16777216)
 (hL : L.length ≤ 1000000000) (t : List UInt8) (hi : i < s.size) (ht : s.data.toList.drop (i + 1) = t) (hins : ins = true) :
 Calls Tryz.prog 124 #[.pointer (some ⟨C, 0, none⟩), .int .u8 42] w (StepPost n C Bo v vo s i ins p L w (.ch 42, 0)) := by
 obtain ⟨c0, c1, c2, c3, c4, o0, hfC, hfB⟩ := h.cells
 have w1 : IntKind.i64.wrap ((i : Int) + 1) = (i : Int) + 1 := IntWalk.i64_in _ (by omega)
 have w2 : (0 : Int) ≤ (i : Int) + 1 := by omega
 have w3 : ((i : Int) + 1).toNat = i + 1 := by omega
 have w4 : (i : Int) + 1 ≤ (s.size : Int) := by omega
 have H := Lib.hid h
 have HT := Lib.hid ht
 clear h ht hfC hfB
 go_enter Tryz.func124, Tryz.ntmps124
 go_wp2_with fail
 go_quiet (fail)
 obtain ⟨R, hR⟩ : ∃ R, s.extract (i + 1) s.size = R := ⟨_, rfl⟩
 rw [hR]
 have hRl : R.data.toList = t := by rw [← hR, rest_list, HT.out]
 have hRs : R.size ≤ 16777216 := by rw [← hR]; simp; omega
 clear hR w1 w2 w3 w4
 have hF : Fresh w (w.drewN nq) := (Keeps.refl _ w).drewN nq
 subst hins
 have hst := star_any R (w.drewN nq) (by omega)
 generalize plc 0 (str R.data.toList) = J at hst
 have HST := Lib.hid hst
 have HF := Lib.hid hF
 clear hst hF hRl
 have HC2 := Lib.hid c2
 go_wp2_with fail
 refine HST.out.mono ?_
 rintro e w2 ⟨rfl, hk2⟩
 have d2 := hk2.cell_some (HF.out.cell_some HC2.out (fun h => h)) (fun h => h)
 have HK2 := Lib.hid hk2
 clear hk2
 go_wp2
 go_ret
 exact ⟨rfl, HF.out.tr HK2.out⟩
theorem step_star_no (n C Bo : Nat) (v vo : Value) (s : ByteArray) (i : Nat) (ins : Bool) (p : List UInt8) (L : List Ev) (w : World) (h : Scan w C Bo v vo s i ins p L) (hs : s.size ≤ 16777216) (hp : p.length ≤ 16777216)
 (hL : L.length ≤ 1000000000) (t : List UInt8) (hi : i < s.size) (ht : s.data.toList.drop (i + 1) = t) (hins : ins = false) (hst0 : str t = none) :
 Calls Tryz.prog 124 #[.pointer (some ⟨C, 0, none⟩), .int .u8 42] w (StepPost n C Bo v vo s i ins p L w (.ch 42, 0)) := by
 obtain ⟨c0, c1, c2, c3, c4, o0, hfC, hfB⟩ := h.cells
 have w1 : IntKind.i64.wrap ((i : Int) + 1) = (i : Int) + 1 := IntWalk.i64_in _ (by omega)
 have w2 : (0 : Int) ≤ (i : Int) + 1 := by omega
 have w3 : ((i : Int) + 1).toNat = i + 1 := by omega
 have w4 : (i : Int) + 1 ≤ (s.size : Int) := by omega
 have H := Lib.hid h
 have HT := Lib.hid ht
 clear h ht hfC hfB
 go_enter Tryz.func124, Tryz.ntmps124
 go_wp2_with fail
 go_quiet (fail)
 obtain ⟨R, hR⟩ : ∃ R, s.extract (i + 1) s.size = R := ⟨_, rfl⟩
 rw [hR]
 have hRl : R.data.toList = t := by rw [← hR, rest_list, HT.out]
 have hRs : R.size ≤ 16777216 := by rw [← hR]; simp; omega
 clear hR w1 w2 w3 w4
 have hF : Fresh w (w.drewN nq) := (Keeps.refl _ w).drewN nq
 subst hins
 have hst := star_any R (w.drewN nq) (by omega)
 rw [hRl, hst0, show plc 0 none = -1 from rfl] at hst
 have HST := Lib.hid hst
 have HF := Lib.hid hF
 clear hst hF hRl hst0
 have HC2 := Lib.hid c2
 go_wp2_with fail
 refine HST.out.mono ?_
 rintro e w2 ⟨rfl, hk2⟩
 have d2 := hk2.cell_some (HF.out.cell_some HC2.out (fun h => h)) (fun h => h)
 have HK2 := Lib.hid hk2
 clear hk2
 go_wp2
 go_ret
 exact ⟨rfl, HF.out.tr HK2.out⟩
theorem step_star (n C Bo : Nat) (v vo : Value) (s : ByteArray) (i : Nat) (ins : Bool) (p : List UInt8) (L : List Ev) (w : World) (h : Scan w C Bo v vo s i ins p L) (hs : s.size ≤ 16777216) (hp : p.length ≤ 16777216)
 (hL : L.length ≤ 1000000000) (t : List UInt8) (hi : i < s.size) (ht : s.data.toList.drop (i + 1) = t) (hG : Gl w) (hH : Hi (ScanD C Bo v vo)) (IH : PartOK n) (hn : t.length ≤ n) (hLL : L.length + (flushE p).length + 1 + 2 * t.length ≤ 1000000000) (hins : ins = false) (m : Nat) (hst0 : str t = some m) :
 Calls Tryz.prog 124 #[.pointer (some ⟨C, 0, none⟩), .int .u8 42] w (StepPost n C Bo v vo s i ins p L w (.sub ⟨6, false, 0, []⟩ (t.take m) true, m + 1)) := by
 obtain ⟨c0, c1, c2, c3, c4, o0, hfC, hfB⟩ := h.cells
 have w1 : IntKind.i64.wrap ((i : Int) + 1) = (i : Int) + 1 := IntWalk.i64_in _ (by omega)
 have w2 : (0 : Int) ≤ (i : Int) + 1 := by omega
 have w3 : ((i : Int) + 1).toNat = i + 1 := by omega
 have w4 : (i : Int) + 1 ≤ (s.size : Int) := by omega
 have H := Lib.hid h
 have HT := Lib.hid ht
 clear h ht hfC hfB
 go_enter Tryz.func124, Tryz.ntmps124
 go_wp2_with fail
 go_quiet (fail)
 obtain ⟨R, hR⟩ : ∃ R, s.extract (i + 1) s.size = R := ⟨_, rfl⟩
 rw [hR]
 have hRl : R.data.toList = t := by rw [← hR, rest_list, HT.out]
 have hRs : R.size ≤ 16777216 := by rw [← hR]; simp; omega
 clear hR w1 w2 w3 w4
 have hF : Fresh w (w.drewN nq) := (Keeps.refl _ w).drewN nq
 subst hins
 have hts : t.length + i + 1 = s.size := by
  have h5 : (s.data.toList.drop (i + 1)).length = t.length := by rw [HT.out]
  simp at h5
  omega
 have hml := str_lt hst0
 have hst := star_any R (w.drewN nq) (by omega)
 rw [hRl, hst0, show plc 0 (some m) = ((m : Nat) : Int) from by simp [plc]] at hst
 have htl : t.length = R.size := by rw [← hRl]; simp
 have hmr : (m : Int) ≤ (R.size : Int) := by omega
 have hsub : R.extract 0 m = ⟨(t.take m).toArray⟩ := by
  apply ByteArray.ext
  rw [ByteArray.data_extract]
  apply Array.ext'
  rw [Array.toList_extract, List.extract_eq_take_drop, hRl]
  simp
 obtain ⟨A, hA, hAl, hAs⟩ := ba_scn (t.take m)
 rw [hA] at hsub
 have hAm : A.size ≤ m := by rw [hAs, List.length_take]; omega
 have har := fun W hS hGW => around_any n IH C Bo v vo s i false p L ⟨6, false, 0, []⟩ A true W hS hGW hH hp (by omega) (by omega) (by omega)
 rw [hAl] at har
 have HAR : Hid (∀ W : World, Scan W C Bo v vo s i false p L → Gl W → Calls Tryz.prog 152 #[.pointer (some ⟨C, 0, none⟩), .agg #[.int .i64 6, .bool false, .int .i64 0, .string ⟨#[]⟩], .string A, .bool true] W fun r w' => r = .returned (.tuple #[]) ∧ ∃ v' vo', Scan w' C Bo v' vo' s i false [] (L ++ flushE p ++ ⟨6, false, 0, []⟩ :: (inlF n true (t.take m) [] ++ [endE ⟨6, false, 0, []⟩])) ∧ Mv (ScanD C Bo v vo) (ScanD C Bo v' vo') W w') := Lib.hid har
 have HST := Lib.hid hst
 have HF := Lib.hid hF
 have HG := Lib.hid hG
 have hslice : (R.extract 0 m) = A := hsub
 clear hst hF hRl hst0 har hA hAl hAs hsub htl IH hAm hG hH
 have HC2 := Lib.hid c2
 go_wp2_with fail
 refine HST.out.mono ?_
 rintro e w2 ⟨rfl, hk2⟩
 have d2 := hk2.cell_some (HF.out.cell_some HC2.out (fun h => h)) (fun h => h)
 have hF2 := HF.out.tr hk2
 have hS2 := H.out.fresh hF2
 have har2 := HAR.out _ hS2 (HG.out.fresh hF2)
 have HAR2 := Lib.hid har2
 have HF2 := Lib.hid hF2
 clear hk2 hF2 hS2 har2
 go_wp2_with fail
 refine HAR2.out.mono ?_
 rintro r w3 ⟨rfl, v3, vo3, hs3, hm3⟩
 have a1 := hs3.cells.2.1
 have af := hs3.cells.2.2.2.2.2.2.1 1
 have hat := hs3.at (i + (m + 2))
 have hmv := ((Mv.fresh HF2.out).trans hm3).at (H.out.lt (.inl rfl)) (.int .i64 ((i + (m + 2) : Nat) : Int))
 have HAT := Lib.hid hat
 have HMV := Lib.hid hmv
 clear hs3 hm3 hat hmv c0 c1 c2 c3 c4 o0
 go_wp2
 go_ret
 exact ⟨rfl, _, _, by rw [show i + (m + 1) + 1 = i + (m + 2) by omega]; exact HAT.out, HMV.out⟩
end Go.Proofs.YtbioecifiogffaaGreatDoor
namespace Go.Proofs.YtbioecifiogffaaGreatDoor
open Go.RowKit
theorem step_any (n : Nat) (IH : PartOK n) (C Bo : Nat) (v vo : Value) (s : ByteArray) (i : Nat) (ins : Bool) (p : List UInt8) (L : List Ev) (w : World) (h : Scan w C Bo v vo s i ins p L) (hG : Gl w) (hH : Hi (ScanD C Bo v vo)) (hs : s.size ≤ 16777216) (hp : p.length ≤ 16777216)
 (b : UInt8) (t : List UInt8) (hi : i < s.size) (ht : s.data.toList.drop (i + 1) = t) (hn : t.length ≤ n) (hL : L.length + (flushE p).length + 1 + 2 * t.length ≤ 1000000000) :
 Calls Tryz.prog 124 #[.pointer (some ⟨C, 0, none⟩), .int .u8 b.toNat] w (StepPost n C Bo v vo s i ins p L w (tokAt ins b t)) := by
 have hL1 : L.length ≤ 1000000000 := by omega
 by_cases b1 : b = 92
 ·subst b1
  cases t with
  | nil => exact step_bs n C Bo v vo s i ins p L w h hs hp hL1 [] hi ht rfl rfl
  | cons c t' =>
   cases hc : sgn c with
   | true =>
    have e : tokAt ins 92 (c :: t') = (.ch c, 1) := by simp [tokAt, hc]
    rw [e]
    exact step_esc n C Bo v vo s i ins p L w h hs hp c t' hi ht hc
   | false =>
    by_cases h10 : c = 10
    ·subst h10
     have e : tokAt ins 92 (10 :: t') = (.one ⟨11, false, 0, []⟩, 1) := by simp [tokAt, hc]
     rw [e]
     exact step_hard n C Bo v vo s i ins p L w h hs hp hL1 _ hi ht t' rfl
    ·have e : tokAt ins 92 (c :: t') = (.ch 92, 0) := by simp [tokAt, hc, h10]
     rw [e]
     exact step_bs n C Bo v vo s i ins p L w h hs hp hL1 _ hi ht hc (by rw [hasPrefix_cons]; exact decide_eq_false h10)
 ·by_cases b2 : b = 10
  ·subst b2
   have e : tokAt ins 10 t = (.one ⟨10, false, 0, []⟩, 0) := by simp [tokAt]
   rw [e]
   exact step_nl n C Bo v vo s i ins p L w h hs hp hL1 t hi ht
  ·by_cases b3 : b = 96
   ·subst b3
    cases hf : fnd 96 t with
    | none =>
     have e : tokAt ins 96 t = (.ch 96, 0) := by simp [tokAt, hf]
     rw [e]
     exact step_code_no n C Bo v vo s i ins p L w h hs hp hL1 t hi ht hf hG
    | some k =>
     have e : tokAt ins 96 t = (.one ⟨9, false, 0, spc (t.take k)⟩, k + 1) := by simp [tokAt, hf]
     rw [e]
     exact step_code n C Bo v vo s i ins p L w h hs hp hL1 t hi ht k hf hG
   ·by_cases b4 : b = 91
    ·subst b4
     cases hf : lnk t with
     | none =>
      have e : tokAt ins 91 t = (.ch 91, 0) := by simp [tokAt, hf]
      rw [e]
      exact step_link_no n C Bo v vo s i ins p L w h hs hp hL1 t hi ht hG hf
     | some km =>
      obtain ⟨k, m⟩ := km
      have e : tokAt ins 91 t = (.sub ⟨7, false, 0, (t.drop (k + 2)).take m⟩ (t.take k) ins, k + m + 3) := by simp [tokAt, hf]
      rw [e]
      exact step_link n C Bo v vo s i ins p L w h hs hp hL1 t hi ht hH IH hn hL hG k m hf
    ·by_cases b5 : b = 42
     ·subst b5
      cases ins with
      | true =>
       have e : tokAt true 42 t = (.ch 42, 0) := by simp [tokAt]
       rw [e]
       exact step_star_in n C Bo v vo s i true p L w h hs hp hL1 t hi ht rfl
      | false =>
       cases hf : str t with
       | none =>
        have e : tokAt false 42 t = (.ch 42, 0) := by simp [tokAt, hf]
        rw [e]
        exact step_star_no n C Bo v vo s i false p L w h hs hp hL1 t hi ht rfl hf
       | some m =>
        have e : tokAt false 42 t = (.sub ⟨6, false, 0, []⟩ (t.take m) true, m + 1) := by simp [tokAt, hf]
        rw [e]
        exact step_star n C Bo v vo s i false p L w h hs hp hL1 t hi ht hG hH IH hn hL rfl m hf
     ·have e : tokAt ins b t = (.ch b, 0) := by simp [tokAt, b1, b2, b3, b4, b5]
      rw [e]
      exact step_other n C Bo v vo s i ins p L w h hs hp hL1 t hi ht b b1 b2 b3 b4 b5
def PartInv (n C Bo : Nat) (vo0 : Value) (s : ByteArray) (ins : Bool) (L0 R : List Ev) (w0 : World) (j : Nat) (wr : World) : Prop :=
 ∃ (v vo : Value) (f : Nat) (M : List Ev) (p : List UInt8), Scan wr C Bo v vo s j ins p M ∧ Gl wr ∧ Hi (ScanD C Bo v vo) ∧ M ++ inlF f ins (s.data.toList.drop j) p = R ∧ (s.data.toList.drop j).length < f ∧ f ≤ n ∧ p.length ≤ j ∧ j ≤ s.size ∧
  M.length + (flushE p).length ≤ L0.length + 2 * j ∧ Mv (OutD Bo vo0) (ScanD C Bo v vo) w0 wr
theorem PartInv.step {n C Bo : Nat} {vo0 v vo v' vo' : Value} {s : ByteArray} {ins : Bool} {L0 R M' : List Ev} {w0 wr w' : World} {j k f : Nat} {p' t : List UInt8} (hG : Gl wr) (hH : Hi (ScanD C Bo v vo)) (hmv0 : Mv (OutD Bo vo0) (ScanD C Bo v vo) w0 wr)
 (hs' : Scan w' C Bo v' vo' s (j + 1 + k) ins p' M') (hm : Mv (ScanD C Bo v vo) (ScanD C Bo v' vo') wr w') (ht : s.data.toList.drop (j + 1) = t) (hk : k ≤ t.length) (heq : M' ++ inlF f ins (t.drop k) p' = R) (hfl : t.length < f) (hfn : f ≤ n) (hjs : j < s.size)
 (hp' : p'.length ≤ j + 1 + k) (hM' : M'.length + (flushE p').length ≤ L0.length + 2 * (j + 1 + k)) : PartInv n C Bo vo0 s ins L0 R w0 (j + 1 + k) w' := by
 obtain ⟨hG', hH'⟩ := hG.mv hm hH
 have htl : t.length = s.size - (j + 1) := by rw [← ht]; simp
 have hd : s.data.toList.drop (j + 1 + k) = t.drop k := by rw [← ht, List.drop_drop]
 refine ⟨v', vo', f, M', p', hs', hG', hH', by rw [hd]; exact heq, ?_, hfn, hp', by omega, hM', hmv0.trans hm⟩
 rw [hd, List.length_drop]
 omega
theorem tok_ch0 {ins : Bool} {b c : UInt8} {t : List UInt8} (h : tokAt ins b t = (.ch c, 0)) : c = b := by
 unfold tokAt at h
 repeat' split at h
 all_goals simp_all
theorem tok_ch {ins : Bool} {b c : UInt8} {t : List UInt8} {k : Nat} (h : tokAt ins b t = (.ch c, k)) : k ≤ t.length := by
 unfold tokAt at h
 repeat' split at h
 all_goals simp_all
 all_goals omega
theorem part_any (n : Nat) : PartOK n := by
 induction n using Nat.strongRecOn with
 | ind n IH =>
 intro s ins Bo vo L w hb he hn hs hL hG hH
 obtain ⟨R, hR⟩ : ∃ R, R = L ++ inlF n ins s.data.toList [] := ⟨_, rfl⟩
 rw [← hR]
 have hsl : s.data.toList.length = s.size := by simp
 obtain ⟨W, hW⟩ : ∃ W, W = w.alloc (.cells #[.string s, .int .i64 0, .bool ins, .slice none 0 0, .pointer (some ⟨Bo, 0, none⟩)] 227) := ⟨_, rfl⟩
 have hF : Fresh w W := by rw [hW]; exact (Keeps.refl _ w).alloc _
 have hS0 : Scan W w.heap.size Bo (.slice none 0 0) vo s 0 ins [] L := ⟨by rw [hW]; exact heap_alloc_new w _, hF.heap_some hb (fun h => h), World.ownsRow_nil _ _ _ _, he.fresh hF⟩
 have hI0 : PartInv n w.heap.size Bo vo s ins L R w 0 W := by
  refine ⟨_, _, n, L, [], hS0, hG.fresh hF, fun k hk => ?_, by rw [List.drop_zero, hR], by rw [List.drop_zero, hsl]; exact hn, Nat.le_refl _, Nat.le_refl _, Nat.zero_le _, by rw [flushE_nil]; simp, hF.mono (fun _ _ h => h.elim), fun k hk => ?_⟩
  ·rcases hk with h | h | h | h
   ·rw [h]; exact hG.2
   ·exact hH k (.inl h)
   ·cases h
   ·exact hH k (.inr h)
  ·rcases hk with h | h | h | h
   ·exact .inr (by rw [h]; exact Nat.le_refl _)
   ·exact .inl (.inl h)
   ·cases h
   ·exact .inl (.inr h)
 have hlt : w.heap.size < W.heap.size := by rw [hW]; simp
 generalize hC : w.heap.size = C at *
 have HI0 := Lib.hid hI0
 have HIH := Lib.hid IH
 have HSL := Lib.hid hsl
 clear hI0 IH hsl hS0 hF hb he hG hH hR
 go_enter Tryz.func114, Tryz.ntmps114
 go_upto_region 1 with fail
 rw [← hW]
 clear hW hC
 go_loopg [12] s.size (fun g _ wr => ∃ j, j + g = s.size ∧ PartInv n C Bo vo s ins L R w j wr)
 case atStart => exact ⟨0, by omega, HI0.out⟩
 case round =>
  obtain ⟨j, hj, v, vo1, f, M, p, hsc, hG, hH, heq, hfl, hfn, hpl, hjs, hMl, hmv⟩ := hrel
  obtain ⟨c0, c1, c2, c3, c4, o0, hfC, hfB⟩ := hsc.cells
  cases gk with
  | zero =>
   obtain rfl : j = s.size := by omega
   have hd := drop_ge (s := s) (i := s.size) (Nat.le_refl _)
   rw [hd] at heq
   have hfe : inlF f ins [] p = flushE p := by cases f <;> rfl
   rw [hfe] at heq
   have hfl2 := flush_any C Bo v vo1 s s.size ins p M wr hsc (by omega) (by omega)
   rw [heq] at hfl2
   have HFL := Lib.hid hfl2
   have HMV := Lib.hid hmv
   clear hfl2 hmv hsc hG hH heq hfl hfn hpl hjs hMl hd hfe hfC hfB
   go_wp2_with fail
   refine HFL.out.mono ?_
   rintro r w2 ⟨rfl, v2, vo2, hs2, hm2⟩
   have hm3 : Mv (OutD Bo vo) (OutD Bo vo2) w w2 := by
    have h5 := HMV.out.trans hm2
    exact ⟨h5.1, fun k hk => h5.2 k (hk.elim (fun h => .inr (.inl h)) (fun h => .inr (.inr (.inr h))))⟩
   have HS2 := Lib.hid hs2
   have HM3 := Lib.hid hm3
   clear hs2 hm2 hm3
   go_wp2
   go_end0
   exact ⟨rfl, _, HS2.out.out, HS2.out.evs, HM3.out⟩
  | succ g =>
   have hlt : j < s.size := by omega
   have hd := drop_lt hlt
   obtain ⟨b, hb⟩ : ∃ b, s[j]'hlt = b := ⟨_, rfl⟩
   obtain ⟨t, ht⟩ : ∃ t, s.data.toList.drop (j + 1) = t := ⟨_, rfl⟩
   rw [hb, ht] at hd
   rw [hd] at heq hfl
   simp only [List.length_cons] at hfl
   obtain ⟨f, rfl⟩ : ∃ k, f = k + 1 := ⟨f - 1, by omega⟩
   have htl : t.length = s.size - (j + 1) := by rw [← ht]; simp
   have hst := step_any f (HIH.out f (by omega)) C Bo v vo1 s j ins p M wr hsc hG hH hs (by omega) b t hlt ht (by omega) (by omega)
   have HST := Lib.hid hst
   clear hst hd
   go_wp2_with fail
   refine HST.out.mono ?_
   intro r w2 hpost
   have HG := Lib.hid hG
   have HH := Lib.hid hH
   have HMV := Lib.hid hmv
   have HT := Lib.hid ht
   have HS := Lib.hid hsc
   have hfp := flushE_le p
   clear hG hH hmv ht hfB hsc c2 c4 o0
   simp only [inlF] at heq
   cases htk : tokAt ins b t with
   | mk tk k =>
   rw [htk] at hpost heq
   cases tk with
   | ch c =>
    have hkl := tok_ch htk
    cases k with
    | zero =>
     obtain rfl := tok_ch0 htk
     obtain ⟨rfl, hk2⟩ := hpost
     have hS2 := HS.out.fresh hk2
     have hs0 : TextS C v j w2.drew := TextS.kept ⟨c3, c1⟩ (hk2.tr ((Keeps.refl _ w2).drew)) (fun h => h)
     have hmF : Mv (ScanD C Bo v vo1) (ScanD C Bo v vo1) wr w2 := Mv.fresh hk2
     have HHH := Lib.hid (show M ++ inlF f ins (t.drop 0) (p ++ [c]) = R from heq)
     have H2 := Lib.hid hS2
     have HMF := Lib.hid hmF
     have HI := Lib.hid Tryz.infoU8
     have hj0 : (j : Int) < (s.size : Int) := by omega
     clear hk2 hS2 hmF heq htk c0 c1 c3 hfC
     go_upto_region 3 with fail
     refine wp_region_K 15 (TextS C v j) (by kernel_rfl) ?_
     have hHeld := hs0
     clear hs0
     refine K_is [0, 1, 2, 3, 4, 5, 6, 7, 8, 9, 10] ?_
     iterate 11 (refine K_y (v := ?_) rfl (by kernel_rfl) (fun _ _ _ h => h) (by rfl) ?_ (by assumption) ?_; rotate_left; (· intro _ hSw; (obtain ⟨hS1, hS2⟩ := hSw); first | (go_simp; done) | (go_simp; with_reducible rfl)); try simp only [Act.put, List.setIfInBounds_toArray, List.set_cons_zero, List.set_cons_succ])
     refine K_no ?_
     refine K_one (i := 11) (by kernel_rfl) rfl (fun K hK => ?_)
     go_simp
     refine hK.out _ _ (hHeld.kept ((Keeps.refl (fun _ => False) _).alloc _) (fun h => h)) (fun hHeld2 => ?_)
     clear hK K hHeld
     try simp only [Act.put, List.setIfInBounds_toArray, List.set_cons_zero, List.set_cons_succ]
     have hF3 : Fresh w2 (w2.drew.alloc (.cells #[.int .u8 c.toNat] 5)) := ((Keeps.refl _ w2).drew).alloc _
     refine K_one (i := 12) (by kernel_rfl) rfl (fun K hK => ?_)
     refine step_append_mine _ (by rfl) _ _ 71 (by rfl) 5 _ 1 1 Tryz.underlying71 HI.out rfl (by decide) v p.length (Lib.byteCells p) (by rfl) ((H2.out.fresh hF3).txt) (some ⟨w2.heap.size, 0, none⟩) 1 1 [.int .u8 c.toNat] (by rfl) rfl (fun h => (by cases h)) (byte_new w2.drew c 5) (fun u hu => by simp at hu; rw [hu]; rfl) (by unfold maxLen; omega) (by omega) ?_
     intro pp cc w3 hrow hgr hkp
     obtain ⟨hm, hmv, z3, zf⟩ := H2.out.grow hF3 hrow hgr hkp
     refine hK.out _ _ (hHeld2.kept hkp (own_ne (H2.out.fresh hF3).txt (H2.out.fresh hF3).blk (by decide))) (fun hHeld3 => ?_)
     clear hK K hHeld2
     try simp only [Act.put, List.setIfInBounds_toArray, List.set_cons_zero, List.set_cons_succ]
     have a1 := hm.cells.2.1
     have af := hm.cells.2.2.2.2.2.2.1 1
     have hat := hm.at (j + 1)
     have hmv2 := hmv.at (H2.out.lt (.inl rfl)) (.int .i64 ((j + 1 : Nat) : Int))
     have hinv : PartInv n C Bo vo s ins L R w (j + 1 + 0) _ := PartInv.step (f := f) HG.out HH.out HMV.out hat (HMF.out.trans hmv2) HT.out (Nat.zero_le _) HHH.out (by omega) (by omega) hlt (by simp; omega) (by have := flushE_le (p ++ [c]); omega)
     have HINV := Lib.hid hinv
     clear hrow hgr hkp hm hmv hF3 hat hmv2 hinv
     refine K_is [13, 14] ?_
     iterate 2 (refine K_y (v := ?_) rfl (by kernel_rfl) (fun _ _ _ h => h) (by rfl) ?_ (by assumption) ?_; rotate_left; (· intro _ hSw; (obtain ⟨hS1, hS2⟩ := hSw); first | (go_simp; done) | (go_simp; with_reducible rfl)); try simp only [Act.put, List.setIfInBounds_toArray, List.set_cons_zero, List.set_cons_succ])
     refine K_no ?_
     clear hHeld3
     refine K_last (by kernel_rfl) rfl (fun K hK => ?_)
     go_simp
     refine hK.out _ _ ?_
     clear hK K
     try simp only [Act.put, List.setIfInBounds_toArray, List.set_cons_zero, List.set_cons_succ]
     refine K_done (by kernel_rfl) ?_ _
     go_wp2
     go_roundg g
     case measure => omega
     case rel => exact ⟨j + 1 + 0, by omega, HINV.out⟩
    | succ k =>
     obtain ⟨rfl, v2, vo2, hs2, hm2⟩ := hpost
     have hinv : PartInv n C Bo vo s ins L R w (j + 1 + (k + 1)) w2 := PartInv.step (f := f) HG.out HH.out HMV.out (by rw [show j + 1 + (k + 1) = j + k + 2 by omega]; exact hs2) hm2 HT.out hkl heq (by omega) (by omega) hlt (by simp; omega) (by have := flushE_le (p ++ [c]); omega)
     have HINV := Lib.hid hinv
     clear hinv hs2 hm2 heq htk c0 c1 c3 hfC
     go_wp2
     go_roundg (s.size - (j + 1 + (k + 1)))
     case measure => omega
     case rel => exact ⟨j + 1 + (k + 1), by omega, HINV.out⟩
   | one e =>
    obtain ⟨-, hkl⟩ := tokAt_one htk
    obtain ⟨rfl, v2, vo2, hs2, hm2⟩ := hpost
    have hinv : PartInv n C Bo vo s ins L R w (j + 1 + k) w2 := PartInv.step (f := f) HG.out HH.out HMV.out (by rw [show j + 1 + k = j + k + 1 by omega]; exact hs2) hm2 HT.out hkl (by rw [← heq]; simp) (by omega) (by omega) hlt (by simp) (by simp [flushE_nil]; omega)
    have HINV := Lib.hid hinv
    clear hinv hs2 hm2 heq htk c0 c1 c3 hfC
    go_wp2
    go_roundg (s.size - (j + 1 + k))
    case measure => omega
    case rel => exact ⟨j + 1 + k, by omega, HINV.out⟩
   | sub e s' i' =>
    obtain ⟨-, hsl, hkl⟩ := tokAt_sub htk
    obtain ⟨rfl, v2, vo2, hs2, hm2⟩ := hpost
    have hil := inlF_length f i' s' []
    rw [flushE_nil] at hil
    simp only [List.length_nil, Nat.add_zero] at hil
    have hinv : PartInv n C Bo vo s ins L R w (j + 1 + k) w2 := PartInv.step (f := f) HG.out HH.out HMV.out (by rw [show j + 1 + k = j + k + 1 by omega]; exact hs2) hm2 HT.out hkl (by rw [← heq]; simp) (by omega) (by omega) hlt (by simp) (by simp [flushE_nil]; omega)
    have HINV := Lib.hid hinv
    clear hinv hs2 hm2 heq htk c0 c1 c3 hfC
    go_wp2
    go_roundg (s.size - (j + 1 + k))
    case measure => omega
    case rel => exact ⟨j + 1 + k, by omega, HINV.out⟩
end Go.Proofs.YtbioecifiogffaaGreatDoor
namespace Go.Proofs.YtbioecifiogffaaGreatDoor
open Go.RowKit
theorem Find_any (s : ByteArray) (w : World) (hs : s.size ≤ 16777216) (hG : Gl w) :
 Calls Tryz.prog 93 #[.string s] w fun e w' => ∃ v, e = .returned v ∧ Evs w' 97 v (inlF (s.size + 1) false s.data.toList []) ∧ (∀ k, v.ownBlock = some k → w.heap.size ≤ k) ∧ Fresh w w' := by
 obtain ⟨W, hW⟩ : ∃ W, W = w.alloc (.cells #[.slice none 0 0] 131) := ⟨_, rfl⟩
 have hF : Fresh w W := by rw [hW]; exact (Keeps.refl _ w).alloc _
 have hlt : w.heap.size < W.heap.size := by rw [hW]; simp
 have hb : W.heap[w.heap.size]? = some (.cells #[.slice none 0 0] 131 (0, 0)) := by rw [hW]; exact heap_alloc_new w _
 have hpt := part_any (s.size + 1) s false w.heap.size (.slice none 0 0) [] W hb (Evs.nil _ _) (by omega) hs (by simp; omega) (hG.fresh hF) (fun k hk => by
   rcases hk with h | h
   ·rw [h]; exact hG.2
   ·cases h)
 have HPT := Lib.hid hpt
 have HF := Lib.hid hF
 clear hpt hF hb hG
 go_enter Tryz.func93, Tryz.ntmps93
 go_wp2_with fail
 rw [← hW]
 clear hW
 refine HPT.out.mono ?_
 rintro r w2 ⟨rfl, v2, hb2, he2, hm2⟩
 have c0 : w2.cell? ⟨w.heap.size, 0, none⟩ = some v2 := by rw [Lib.cell_of_heap hb2]; rfl
 have hown : ∀ k, v2.ownBlock = some k → w.heap.size ≤ k := fun k hk => by
  rcases hm2.2 k (.inr hk) with (h | h) | h
  ·rw [h]; exact Nat.le_refl _
  ·cases h
  ·omega
 have hK : Fresh w w2 := HF.out.trans hm2.1 (fun j h1 h2 => by
   rcases h2 with h | h
   ·omega
   ·cases h)
 have HE := Lib.hid he2
 have HO := Lib.hid hown
 have HK := Lib.hid hK
 clear hb2 he2 hm2 hown hK
 go_wp2
 go_ret
 exact ⟨_, rfl, by simpa using HE.out, HO.out, HK.out⟩
theorem regular_size (s : ByteArray) : (⟨(regular s).toArray⟩ : ByteArray).size = (regular s).length := by simp [ByteArray.size]
theorem pInline_any (s : ByteArray) (w : World) (hs : s.size ≤ 1048576) (hG : Gl w) :
 Calls Tryz.prog 67 #[.string s] w fun e w' => ∃ v, e = .returned v ∧ Evs w' 97 v (inlF ((regular s).length + 1) false (regular s) []) ∧ (∀ k, v.ownBlock = some k → w.heap.size ≤ k) ∧ Fresh w w' := by
 have hrl := regular_length s
 have hfd := fun W : World => fun hGW => Find_any ⟨(regular s).toArray⟩ W (by rw [regular_size]; omega) hGW
 rw [regular_size, show (⟨(regular s).toArray⟩ : ByteArray).data.toList = regular s from rfl] at hfd
 have hre := Regular_any s w (by omega)
 have HFD := Lib.hid hfd
 have HRE := Lib.hid hre
 have HG := Lib.hid hG
 clear hfd hre hG
 go_enter Tryz.func67, Tryz.ntmps67
 go_wp2_with fail
 refine HRE.out.mono ?_
 rintro r w2 ⟨rfl, hk2⟩
 have HK2 := Lib.hid hk2
 clear hk2
 go_wp2_with fail
 refine (HFD.out _ (HG.out.fresh HK2.out)).mono ?_
 rintro r w3 ⟨v3, rfl, he3, ho3, hk3⟩
 have HE := Lib.hid he3
 have HO := Lib.hid (fun k hk => Nat.le_trans HK2.out.size (ho3 k hk) : ∀ k, v3.ownBlock = some k → w.heap.size ≤ k)
 have HK := Lib.hid (HK2.out.tr hk3)
 clear he3 ho3 hk3
 go_wp2
 go_ret
 exact ⟨_, rfl, HE.out, HO.out, HK.out⟩
theorem plInline_any (s : ByteArray) (w : World) (hs : s.size ≤ 1048576) (hG : Gl w) :
 Calls Tryz.prog 38 #[.string s] w fun e w' => ∃ v, e = .returned v ∧ Evs w' 38 v (inlF ((regular s).length + 1) false (regular s) []) ∧ Fresh w w' := by
 have hrl := regular_length s
 have hil := inlF_length ((regular s).length + 1) false (regular s) []
 rw [flushE_nil] at hil
 simp only [List.length_nil, Nat.add_zero] at hil
 have hfd := pInline_any s w hs hG
 generalize inlF ((regular s).length + 1) false (regular s) [] = I at *
 have hev := fun v W h => events_any v I W h (by omega)
 have HFD := Lib.hid hfd
 have HEV := Lib.hid hev
 clear hfd hev hG
 go_enter Tryz.func38, Tryz.ntmps38
 go_wp2_with fail
 refine HFD.out.mono ?_
 rintro r w2 ⟨v2, rfl, he2, ho2, hk2⟩
 have hee := HEV.out v2 w2 he2
 have HEE := Lib.hid hee
 have HO := Lib.hid ho2
 have HK2 := Lib.hid hk2
 clear hee he2 ho2 hk2
 go_wp2_with fail
 refine HEE.out.mono ?_
 rintro r w3 ⟨v3, rfl, he3, ho3, hk3⟩
 have HE := Lib.hid he3
 have HK := Lib.hid (HK2.out.trans hk3 (fun j h1 h2 => by have := HO.out j h2; omega) : Fresh w w3)
 clear he3 ho3 hk3
 go_wp2
 go_ret
 exact ⟨_, rfl, HE.out, HK.out⟩
theorem Inlined_any (s : ByteArray) (w : World) (hG : Gl w) (hm : s.size ≤ maxLen) :
 Calls Tryz.prog 17 #[.string s] w fun e w' => e = .returned (.bool true) ∧ Fresh w w' := by
 unfold maxLen at hm
 by_cases hs : s.size ≤ 1048576
 ·have hrl := regular_length s
  have hil := inlF_length ((regular s).length + 1) false (regular s) []
  rw [flushE_nil] at hil
  simp only [List.length_nil, Nat.add_zero] at hil
  have hpl := plInline_any s w hs hG
  have hre := fun W : World => refRegular_any s W (by omega)
  have hri := fun W : World => Inline_ok ((regular s).length + 1) ⟨(regular s).toArray⟩ false W (by rw [regular_size]; omega) (by rw [regular_size]; omega)
  rw [show (⟨(regular s).toArray⟩ : ByteArray).data.toList = regular s from rfl] at hri
  generalize inlF ((regular s).length + 1) false (regular s) [] = I at *
  have hsa := fun v u W h h2 => same_any v u I W h h2 (by omega)
  have HPL := Lib.hid hpl
  have HRE := Lib.hid hre
  have HRI := Lib.hid hri
  have HSA := Lib.hid hsa
  clear hpl hre hri hsa hG
  go_enter Tryz.func17, Tryz.ntmps17
  go_wp2_with fail
  refine HPL.out.mono ?_
  rintro r w2 ⟨v2, rfl, he2, hk2⟩
  have HE2 := Lib.hid he2
  have HK2 := Lib.hid hk2
  clear he2 hk2
  go_wp2_with fail
  refine (HRE.out _).mono ?_
  rintro r w3 ⟨rfl, hk3⟩
  have HK3 := Lib.hid hk3
  clear hk3
  go_wp2_with fail
  refine (HRI.out _).mono ?_
  rintro r w4 ⟨v4, rfl, he4, ho4, hk4⟩
  have hss := HSA.out v2 v4 w4 ((HE2.out.fresh HK3.out).fresh hk4) he4
  have HSS := Lib.hid hss
  have HK4 := Lib.hid hk4
  clear hss he4 ho4 hk4
  go_wp2_with fail
  refine HSS.out.mono ?_
  rintro r w5 ⟨rfl, hk5⟩
  have HK := Lib.hid (((HK2.out.tr HK3.out).tr HK4.out).tr hk5)
  clear hk5
  go_wp2
  go_ret
  exact ⟨rfl, HK.out⟩
 ·have hlt : (1048576 : Int) < (s.size : Int) := by omega
  clear hG hs
  go_enter Tryz.func17, Tryz.ntmps17
  go_wp2
  go_ret
  exact ⟨rfl, Keeps.refl _ _⟩
end Go.Proofs.YtbioecifiogffaaGreatDoor
