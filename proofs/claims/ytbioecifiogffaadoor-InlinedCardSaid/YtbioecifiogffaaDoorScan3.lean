/- inline.scanner: tell. Condition: no more than 2^30 events, no more than 2^30 bytes. -/
import Derived.Test.YtbioecifiogffaaDoorScan2
namespace Go.Proofs.YtbioecifiogffaaDoor
open Go.RowKit

theorem Scan.lt {w : World} {C Bo : Nat} {v vo : Value} {s : ByteArray} {i : Nat} {ins : Bool} {p : List UInt8} {L : List Ev} (h : Scan w C Bo v vo s i ins p L) {k : Nat} (hk : ScanD C Bo v vo k) : k < w.heap.size := by
  rcases hk with rfl | rfl | hk | hk
  · exact (Array.getElem?_eq_some_iff.1 h.blk).1
  · exact (Array.getElem?_eq_some_iff.1 h.out).1
  · exact own_lt h.txt hk
  · exact own_lt h.evs hk

/-- What tell's statement reads. -/
def TellS (C Bo E : Nat) (vo : Value) (e : Ev) (w : World) : Prop :=
  w.cell? ⟨C, 4, none⟩ = some (.pointer (some ⟨Bo, 0, none⟩)) ∧ w.cell? ⟨Bo, 0, none⟩ = some vo ∧ w.cell? ⟨E, 0, none⟩ = some (.int .i64 e.kind) ∧ w.cell? ⟨E, 1, none⟩ = some (.bool e.fin) ∧ w.cell? ⟨E, 2, none⟩ = some (.int .i64 e.level) ∧ w.cell? ⟨E, 3, none⟩ = some (.string ⟨e.text.toArray⟩)
theorem TellS.kept {D : Nat → Prop} {w w' : World} {C Bo E : Nat} {vo : Value} {e : Ev} (h : TellS C Bo E vo e w) (hk : Keeps D w w') (hC : ¬ D C) (hB : ¬ D Bo) (hE : ¬ D E) : TellS C Bo E vo e w' := by
  obtain ⟨h1, h2, h3, h4, h5, h6⟩ := h
  exact ⟨hk.cell_some h1 hC, hk.cell_some h2 hB, hk.cell_some h3 hE, hk.cell_some h4 hE, hk.cell_some h5 hE, hk.cell_some h6 hE⟩
theorem TellS.fresh {w w' : World} {C Bo E : Nat} {vo : Value} {e : Ev} (h : TellS C Bo E vo e w) (hk : Fresh w w') : TellS C Bo E vo e w' := h.kept hk (fun h => h) (fun h => h) (fun h => h)

set_option maxHeartbeats 4000000 in
set_option maxRecDepth 100000 in
theorem tell_any (C Bo : Nat) (v vo : Value) (s : ByteArray) (i : Nat) (ins : Bool) (p : List UInt8) (L : List Ev) (e : Ev) (w : World) (h : Scan w C Bo v vo s i ins p L) (hp : p.length ≤ 1073741824) (hL : L.length ≤ 1073741823) :
    Calls Tryd.prog 79 #[.pointer (some ⟨C, 0, none⟩), .agg #[.int .i64 e.kind, .bool e.fin, .int .i64 e.level, .string ⟨e.text.toArray⟩]] w fun r w' => r = .returned (.tuple #[]) ∧ ∃ v' vo', Scan w' C Bo v' vo' s i ins [] (L ++ flushE p ++ [e]) ∧ Mv (ScanD C Bo v vo) (ScanD C Bo v' vo') w w' := by
  obtain ⟨W, hW⟩ : ∃ W, W = w.alloc (.cells #[.int .i64 e.kind, .bool e.fin, .int .i64 e.level, .string ⟨e.text.toArray⟩] 84) := ⟨_, rfl⟩
  have hF : Fresh w W := by rw [hW]; exact (Keeps.refl _ w).alloc _
  have hE : W.cell? ⟨w.heap.size, 0, none⟩ = some (.int .i64 e.kind) ∧ W.cell? ⟨w.heap.size, 1, none⟩ = some (.bool e.fin) ∧ W.cell? ⟨w.heap.size, 2, none⟩ = some (.int .i64 e.level) ∧ W.cell? ⟨w.heap.size, 3, none⟩ = some (.string ⟨e.text.toArray⟩) := by rw [hW]; simp
  have hfl := flush_any C Bo v vo s i ins p L W (h.fresh hF) hp (by omega)
  have hnE : ¬ ScanD C Bo v vo w.heap.size := fun hk => Nat.lt_irrefl _ (h.lt hk)
  have HFL := Lib.hid hfl
  have HF := Lib.hid hF
  have HNE := Lib.hid hnE
  have HE := Lib.hid hE
  have HI := Lib.hid Tryd.infoAE
  clear hfl hF hnE hE h
  go_enter Tryd.func79, Tryd.ntmps79
  go_wp2_with fail
  rw [← hW]
  clear hW
  refine HFL.out.mono ?_
  rintro r w2 ⟨rfl, v2, vo2, hs2, hm2⟩
  obtain ⟨c0, c1, c2, c3, c4, o0, hfC, hfB⟩ := hs2.cells
  obtain ⟨e0, e1, e2, e3⟩ := HE.out
  have hlt := HF.out.size
  have hS0 : TellS C Bo w.heap.size vo2 e w2 := ⟨c4, o0, hm2.1.cell_some e0 HNE.out, hm2.1.cell_some e1 HNE.out, hm2.1.cell_some e2 HNE.out, hm2.1.cell_some e3 HNE.out⟩
  have nC : ¬ vo2.ownBlock = some C := own_ne hs2.evs hs2.blk (by decide)
  have nB : ¬ vo2.ownBlock = some Bo := own_ne hs2.evs hs2.out (by decide)
  have nE : ¬ vo2.ownBlock = some w.heap.size := fun hk => by
    rcases hm2.2 _ (.inr (.inr (.inr hk))) with h1 | h1
    · exact HNE.out h1
    · have := World.block_lt_of_cell? _ _ e0
      simp at this
      omega
  have hll : (L ++ flushE p).length ≤ L.length + 1 := by rw [List.length_append]; unfold flushE; split <;> simp
  obtain ⟨M, hMd⟩ : ∃ M, L ++ flushE p = M := ⟨_, rfl⟩
  rw [hMd] at hs2 hll
  have HMD := Lib.hid hMd
  clear hMd
  have H2 := Lib.hid hs2
  have HM := Lib.hid hm2
  have HS0 := Lib.hid hS0
  clear hs2 hm2 hS0 c0 c1 c2 c3 c4 o0 hfC hfB e0 e1 e2 e3
  go_upto_region 2 with fail
  refine wp_region_K 14 (TellS C Bo w.heap.size vo2 e) (by kernel_rfl) ?_
  have hHeld := HS0.out.fresh ((Keeps.refl _ w2).drew)
  refine K_take (i := 0) (v := ?_) rfl (by kernel_rfl) (by kernel_rfl) (by kernel_rfl) (by kernel_rfl) (by kernel_rfl) (fun _ _ _ h => h) (Or.inl ⟨by rfl, ?_⟩) (by assumption) ?_
  rotate_left
  · (intro _ hSw; (obtain ⟨hS1, hS2, hS3, hS4, hS5, hS6⟩ := hSw); first | (go_simp; done) | (go_simp; with_reducible rfl))
  try simp only [Act.put, List.setIfInBounds_toArray, List.set_cons_zero, List.set_cons_succ]
  refine K_take (i := 1) (v := ?_) rfl (by kernel_rfl) (by kernel_rfl) (by kernel_rfl) (by kernel_rfl) (by kernel_rfl) (fun _ _ _ h => h) (Or.inl ⟨by rfl, ?_⟩) (by assumption) ?_
  rotate_left
  · (intro _ hSw; (obtain ⟨hS1, hS2, hS3, hS4, hS5, hS6⟩ := hSw); first | (go_simp; done) | (go_simp; with_reducible rfl))
  try simp only [Act.put, List.setIfInBounds_toArray, List.set_cons_zero, List.set_cons_succ]
  refine K_take (i := 2) (v := ?_) rfl (by kernel_rfl) (by kernel_rfl) (by kernel_rfl) (by kernel_rfl) (by kernel_rfl) (fun _ _ _ h => h) (Or.inl ⟨by rfl, ?_⟩) (by assumption) ?_
  rotate_left
  · (intro _ hSw; (obtain ⟨hS1, hS2, hS3, hS4, hS5, hS6⟩ := hSw); first | (go_simp; done) | (go_simp; with_reducible rfl))
  try simp only [Act.put, List.setIfInBounds_toArray, List.set_cons_zero, List.set_cons_succ]
  refine K_take (i := 3) (v := ?_) rfl (by kernel_rfl) (by kernel_rfl) (by kernel_rfl) (by kernel_rfl) (by kernel_rfl) (fun _ _ _ h => h) (Or.inl ⟨by rfl, ?_⟩) (by assumption) ?_
  rotate_left
  · (intro _ hSw; (obtain ⟨hS1, hS2, hS3, hS4, hS5, hS6⟩ := hSw); first | (go_simp; done) | (go_simp; with_reducible rfl))
  try simp only [Act.put, List.setIfInBounds_toArray, List.set_cons_zero, List.set_cons_succ]
  refine K_take (i := 4) (v := ?_) rfl (by kernel_rfl) (by kernel_rfl) (by kernel_rfl) (by kernel_rfl) (by kernel_rfl) (fun _ _ _ h => h) (Or.inl ⟨by rfl, ?_⟩) (by assumption) ?_
  rotate_left
  · (intro _ hSw; (obtain ⟨hS1, hS2, hS3, hS4, hS5, hS6⟩ := hSw); first | (go_simp; done) | (go_simp; with_reducible rfl))
  try simp only [Act.put, List.setIfInBounds_toArray, List.set_cons_zero, List.set_cons_succ]
  refine K_take (i := 5) (v := ?_) rfl (by kernel_rfl) (by kernel_rfl) (by kernel_rfl) (by kernel_rfl) (by kernel_rfl) (fun _ _ _ h => h) (Or.inl ⟨by rfl, ?_⟩) (by assumption) ?_
  rotate_left
  · (intro _ hSw; (obtain ⟨hS1, hS2, hS3, hS4, hS5, hS6⟩ := hSw); first | (go_simp; done) | (go_simp; with_reducible rfl))
  try simp only [Act.put, List.setIfInBounds_toArray, List.set_cons_zero, List.set_cons_succ]
  refine K_take (i := 6) (v := ?_) rfl (by kernel_rfl) (by kernel_rfl) (by kernel_rfl) (by kernel_rfl) (by kernel_rfl) (fun _ _ _ h => h) (Or.inl ⟨by rfl, ?_⟩) (by assumption) ?_
  rotate_left
  · (intro _ hSw; (obtain ⟨hS1, hS2, hS3, hS4, hS5, hS6⟩ := hSw); first | (go_simp; done) | (go_simp; with_reducible rfl))
  try simp only [Act.put, List.setIfInBounds_toArray, List.set_cons_zero, List.set_cons_succ]
  refine K_take (i := 7) (v := ?_) rfl (by kernel_rfl) (by kernel_rfl) (by kernel_rfl) (by kernel_rfl) (by kernel_rfl) (fun _ _ _ h => h) (Or.inl ⟨by rfl, ?_⟩) (by assumption) ?_
  rotate_left
  · (intro _ hSw; (obtain ⟨hS1, hS2, hS3, hS4, hS5, hS6⟩ := hSw); first | (go_simp; done) | (go_simp; with_reducible rfl))
  try simp only [Act.put, List.setIfInBounds_toArray, List.set_cons_zero, List.set_cons_succ]
  refine K_take (i := 8) (v := ?_) rfl (by kernel_rfl) (by kernel_rfl) (by kernel_rfl) (by kernel_rfl) (by kernel_rfl) (fun _ _ _ h => h) (Or.inl ⟨by rfl, ?_⟩) (by assumption) ?_
  rotate_left
  · (intro _ hSw; (obtain ⟨hS1, hS2, hS3, hS4, hS5, hS6⟩ := hSw); first | (go_simp; done) | (go_simp; with_reducible rfl))
  try simp only [Act.put, List.setIfInBounds_toArray, List.set_cons_zero, List.set_cons_succ]
  refine K_take (i := 9) (v := ?_) rfl (by kernel_rfl) (by kernel_rfl) (by kernel_rfl) (by kernel_rfl) (by kernel_rfl) (fun _ _ _ h => h) (Or.inl ⟨by rfl, ?_⟩) (by assumption) ?_
  rotate_left
  · (intro _ hSw; (obtain ⟨hS1, hS2, hS3, hS4, hS5, hS6⟩ := hSw); first | (go_simp; done) | (go_simp; with_reducible rfl))
  try simp only [Act.put, List.setIfInBounds_toArray, List.set_cons_zero, List.set_cons_succ]
  refine K_take (i := 10) (v := ?_) rfl (by kernel_rfl) (by kernel_rfl) (by kernel_rfl) (by kernel_rfl) (by kernel_rfl) (fun _ _ _ h => h) (Or.inl ⟨by rfl, ?_⟩) (by assumption) ?_
  rotate_left
  · (intro _ hSw; (obtain ⟨hS1, hS2, hS3, hS4, hS5, hS6⟩ := hSw); first | (go_simp; done) | (go_simp; with_reducible rfl))
  try simp only [Act.put, List.setIfInBounds_toArray, List.set_cons_zero, List.set_cons_succ]
  refine K_one (i := 11) (by kernel_rfl) rfl (fun K hK => ?_)
  go_simp
  refine hK.out _ _ (hHeld.fresh ((Keeps.refl _ _).alloc _)) (fun hHeld2 => ?_)
  clear hK K hHeld
  try simp only [Act.put, List.setIfInBounds_toArray, List.set_cons_zero, List.set_cons_succ]
  refine K_one (i := 12) (by kernel_rfl) rfl (fun K hK => ?_)
  refine step_append_mine _ (by rfl) _ _ 55 (by rfl) 84 _ 4 40 Tryd.underlying55 HI.out rfl (by decide) vo2 M.length (evCells M) (by rfl) (H2.out.drew.evs.fresh ((Keeps.refl _ _).alloc _)) (some ⟨w2.heap.size, 0, none⟩) 1 1 e.cells (by rfl) rfl (fun h => (by cases h)) (ev_new w2.drew e 84) (ev_one _) (by unfold maxLen; omega) (by omega) ?_
  intro pp cc w3 hrow hgr hkp
  refine hK.out _ _ (hHeld2.kept hkp nC nB nE) (fun hHeld3 => ?_)
  clear hK K hHeld2
  try simp only [Act.put, List.setIfInBounds_toArray, List.set_cons_zero, List.set_cons_succ]
  have hS := H2.out.drew.fresh ((Keeps.refl (fun _ => False) w2.drew).alloc (.cells #[.int .i64 e.kind, .bool e.fin, .int .i64 e.level, .string ⟨e.text.toArray⟩] 84))
  have hF2 : Fresh w2 (w2.drew.alloc (.cells #[.int .i64 e.kind, .bool e.fin, .int .i64 e.level, .string ⟨e.text.toArray⟩] 84)) := ((Keeps.refl (fun _ => False) w2).drew).alloc _
  have b1 := hkp.heap_some hS.blk nC
  have b2 := hkp.heap_some hS.out nB
  have hvo : ∀ k, v2.ownBlock = some k → ¬ vo2.ownBlock = some k := fun k hk => own_ne2 hS.evs hS.txt (by decide) hk
  have b3 := own_kept hS.txt hkp hvo
  have hev : Evs w3 84 (.slice pp (M.length + 1) cc) (M ++ [e]) := Evs.snoc hrow
  have hm := Scan.more b1 b2 b3 hev
  have u0 := hkp.cell_some hS.cells.2.2.2.2.2.1 nB
  have u1 := (hkp.frozen (p := ⟨Bo, 0, none⟩) (World.block_lt_of_cell? _ _ hS.cells.2.2.2.2.2.1) nB).trans (hS.cells.2.2.2.2.2.2.2 0)
  have hmv : Mv (ScanD C Bo v vo) (ScanD C Bo v2 (.slice pp (M.length + 1) cc)) w (w3.setCell ⟨Bo, 0, none⟩ (.slice pp (M.length + 1) cc)) := by
    have s1 := hF2.size
    refine (Mv.fresh HF.out).trans (HM.out.trans ((Mv.fresh hF2).trans (Mv.of ((hkp.mono (D' := ScanD C Bo v2 vo2) (fun k _ hk => .inr (.inr (.inr hk)))).setCell (p := ⟨Bo, 0, none⟩) (fun _ => .inr (.inl rfl)) _) (fun k h => h) (fun k hk => ?_))))
    rcases hk with h | h | h | h
    · exact .inl (.inl h)
    · exact .inl (.inr (.inl h))
    · exact .inl (.inr (.inr (.inl h)))
    · rcases hgr k h with h | h
      · exact .inl (.inr (.inr (.inr h)))
      · exact .inr h
  have HT := Lib.hid hm
  have HMV := Lib.hid hmv
  clear b1 b2 hvo b3 hev hm hmv hS hF2 hkp hgr hrow HS0
  refine K_take (i := 13) (v := ?_) rfl (by kernel_rfl) (by kernel_rfl) (by kernel_rfl) (by kernel_rfl) (by kernel_rfl) (fun _ _ _ h => h) (Or.inl ⟨by rfl, ?_⟩) (by assumption) ?_
  rotate_left
  · (intro _ hSw; (obtain ⟨hS1, hS2, hS3, hS4, hS5, hS6⟩ := hSw); first | (go_simp; done) | (go_simp; with_reducible rfl))
  try simp only [Act.put, List.setIfInBounds_toArray, List.set_cons_zero, List.set_cons_succ]
  clear hHeld3
  refine K_last (by kernel_rfl) rfl (fun K hK => ?_)
  go_simp
  refine hK.out _ _ ?_
  clear hK K
  try simp only [Act.put, List.setIfInBounds_toArray, List.set_cons_zero, List.set_cons_succ]
  refine K_done (by kernel_rfl) ?_ _
  go_wp2
  go_end0
  exact ⟨rfl, _, _, by rw [HMD.out]; exact HT.out, HMV.out⟩
end Go.Proofs.YtbioecifiogffaaDoor
