/- inline.scanner: flush. Condition: no more than 2^30 events, no more than 2^30 bytes. -/
import Derived.Test.YtbioecifiogffaaDoorScan
import Derived.Test.YtbioecifiogffaaDoorHeldK
import Derived.Laws.IdiomStrings
import Derived.Deep.DeepCutAuto
namespace Go.Proofs.YtbioecifiogffaaDoor
open Go.RowKit

/-- What flush's statement reads. -/
def FlushS (C Bo g cap : Nat) (vo : Value) (p : List UInt8) (w : World) : Prop :=
  w.cell? ⟨C, 4, none⟩ = some (.pointer (some ⟨Bo, 0, none⟩)) ∧ w.cell? ⟨C, 3, none⟩ = some (.slice (some ⟨g, 0, none⟩) p.length cap) ∧ w.cell? ⟨Bo, 0, none⟩ = some vo ∧ w.ownsRow 0 5 1 (.slice (some ⟨g, 0, none⟩) p.length cap) p.length (Lib.byteCells p) ∧ (convert 94 9 (.slice (some ⟨g, 0, none⟩) p.length cap)).run Tryd.prog w = .ok (.string ⟨p.toArray⟩) w
theorem FlushS.kept {D : Nat → Prop} {w w' : World} {C Bo g cap : Nat} {vo : Value} {p : List UInt8} (h : FlushS C Bo g cap vo p w) (hk : Keeps D w w') (hC : ¬ D C) (hB : ¬ D Bo) (hg : ¬ D g) : FlushS C Bo g cap vo p w' := by
  obtain ⟨h1, h2, h3, h4, _⟩ := h
  have h4' := own_kept h4 hk (fun k hk => by simp [Value.ownBlock] at hk; rw [← hk]; exact hg)
  refine ⟨hk.cell_some h1 hC, hk.cell_some h2 hC, hk.cell_some h3 hB, h4', ?_⟩
  exact run_convert_bytes_back w' 94 9 5 ⟨g, 0, none⟩ cap p Tryd.underlying94 Tryd.underlying5 Tryd.underlying9 (fun j hj =>
    World.ownsRow.cells (v := .slice (some ⟨g, 0, none⟩) p.length cap) h4' (g := g) rfl j (.int .u8 (p[j].toNat : Int)) (by simp [Lib.byteCells, hj]))
theorem FlushS.fresh {w w' : World} {C Bo g cap : Nat} {vo : Value} {p : List UInt8} (h : FlushS C Bo g cap vo p w) (hk : Fresh w w') : FlushS C Bo g cap vo p w' := h.kept hk (fun h => h) (fun h => h) (fun h => h)
theorem FlushS.of {w : World} {C Bo g cap i : Nat} {vo : Value} {s : ByteArray} {ins : Bool} {p : List UInt8} {L : List Ev} (h : Scan w C Bo (.slice (some ⟨g, 0, none⟩) p.length cap) vo s i ins p L) : FlushS C Bo g cap vo p w :=
  ⟨h.cells.2.2.2.2.1, h.cells.2.2.2.1, h.cells.2.2.2.2.2.1, h.txt, run_convert_bytes_back w 94 9 5 ⟨g, 0, none⟩ cap p Tryd.underlying94 Tryd.underlying5 Tryd.underlying9 (fun j hj =>
    World.ownsRow.cells (v := .slice (some ⟨g, 0, none⟩) p.length cap) h.txt (g := g) rfl j (.int .u8 (p[j].toNat : Int)) (by simp [Lib.byteCells, hj]))⟩

set_option maxHeartbeats 4000000 in
set_option maxRecDepth 100000 in
theorem flush_any (C Bo : Nat) (v vo : Value) (s : ByteArray) (i : Nat) (ins : Bool) (p : List UInt8) (L : List Ev) (w : World) (h : Scan w C Bo v vo s i ins p L) (hp : p.length ≤ 1073741824) (hL : L.length ≤ 1073741824) :
    Calls Tryd.prog 70 #[.pointer (some ⟨C, 0, none⟩)] w fun e w' => e = .returned (.tuple #[]) ∧ ∃ v' vo', Scan w' C Bo v' vo' s i ins [] (L ++ flushE p) ∧ Mv (ScanD C Bo v vo) (ScanD C Bo v' vo') w w' := by
  obtain ⟨c0, c1, c2, c3, c4, o0, hfC, hfB⟩ := h.cells
  obtain ⟨q, cap, hv, hqc, hq, hg⟩ := own_form h.txt
  by_cases h0 : p = []
  · subst h0
    subst hv
    rw [flushE_nil, List.append_nil]
    have H := Lib.hid h
    clear h hfC hfB hq hg
    go_enter Tryd.func70, Tryd.ntmps70
    go_wp2
    go_end0
    exact ⟨rfl, _, _, H.out, Mv.refl _ _⟩
  · have hpl : 0 < p.length := List.length_pos_iff.2 h0
    obtain ⟨g, rfl, hgl⟩ : ∃ g, q = some ⟨g, 0, none⟩ ∧ g < w.heap.size := by
      cases q with
      | none => have := (hq rfl).1; omega
      | some a => obtain ⟨g, rfl, hgl⟩ := hg a rfl; exact ⟨g, rfl, hgl⟩
    subst hv
    have nC : ¬ vo.ownBlock = some C := own_ne h.evs h.blk (by decide)
    have nB : ¬ vo.ownBlock = some Bo := own_ne h.evs h.out (by decide)
    have nG : ¬ vo.ownBlock = some g := own_ne2 h.evs h.txt (by decide) rfl
    have H := Lib.hid h
    have H0 := Lib.hid h0
    have HI := Lib.hid Tryd.infoAE
    have HS := Lib.hid (FlushS.of h)
    clear h hfC hfB hq hg h0
    go_enter Tryd.func70, Tryd.ntmps70
    go_upto_region 1 with fail
    refine wp_region_K 19 (FlushS C Bo g cap vo p) (by kernel_rfl) ?_
    have hHeld := HS.out.fresh ((Keeps.refl _ w).drew)
    refine K_take (i := 0) (v := ?_) rfl (by kernel_rfl) (by kernel_rfl) (by kernel_rfl) (by kernel_rfl) (by kernel_rfl) (fun _ _ _ h => h) (Or.inl ⟨by rfl, ?_⟩) (by assumption) ?_
    rotate_left
    · (intro _ hSw; (obtain ⟨hS1, hS2, hS3, -, hS5⟩ := hSw); first | (go_simp; done) | (go_simp; with_reducible rfl))
    try simp only [Act.put, List.setIfInBounds_toArray, List.set_cons_zero, List.set_cons_succ]
    refine K_take (i := 1) (v := ?_) rfl (by kernel_rfl) (by kernel_rfl) (by kernel_rfl) (by kernel_rfl) (by kernel_rfl) (fun _ _ _ h => h) (Or.inl ⟨by rfl, ?_⟩) (by assumption) ?_
    rotate_left
    · (intro _ hSw; (obtain ⟨hS1, hS2, hS3, -, hS5⟩ := hSw); first | (go_simp; done) | (go_simp; with_reducible rfl))
    try simp only [Act.put, List.setIfInBounds_toArray, List.set_cons_zero, List.set_cons_succ]
    refine K_take (i := 2) (v := ?_) rfl (by kernel_rfl) (by kernel_rfl) (by kernel_rfl) (by kernel_rfl) (by kernel_rfl) (fun _ _ _ h => h) (Or.inl ⟨by rfl, ?_⟩) (by assumption) ?_
    rotate_left
    · (intro _ hSw; (obtain ⟨hS1, hS2, hS3, -, hS5⟩ := hSw); first | (go_simp; done) | (go_simp; with_reducible rfl))
    try simp only [Act.put, List.setIfInBounds_toArray, List.set_cons_zero, List.set_cons_succ]
    refine K_take (i := 3) (v := ?_) rfl (by kernel_rfl) (by kernel_rfl) (by kernel_rfl) (by kernel_rfl) (by kernel_rfl) (fun _ _ _ h => h) (Or.inl ⟨by rfl, ?_⟩) (by assumption) ?_
    rotate_left
    · (intro _ hSw; (obtain ⟨hS1, hS2, hS3, -, hS5⟩ := hSw); first | (go_simp; done) | (go_simp; with_reducible rfl))
    try simp only [Act.put, List.setIfInBounds_toArray, List.set_cons_zero, List.set_cons_succ]
    refine K_take (i := 4) (v := ?_) rfl (by kernel_rfl) (by kernel_rfl) (by kernel_rfl) (by kernel_rfl) (by kernel_rfl) (fun _ _ _ h => h) (Or.inl ⟨by rfl, ?_⟩) (by assumption) ?_
    rotate_left
    · (intro _ hSw; (obtain ⟨hS1, hS2, hS3, -, hS5⟩ := hSw); first | (go_simp; done) | (go_simp; with_reducible rfl))
    try simp only [Act.put, List.setIfInBounds_toArray, List.set_cons_zero, List.set_cons_succ]
    refine K_take (i := 5) (v := ?_) rfl (by kernel_rfl) (by kernel_rfl) (by kernel_rfl) (by kernel_rfl) (by kernel_rfl) (fun _ _ _ h => h) (Or.inl ⟨by rfl, ?_⟩) (by assumption) ?_
    rotate_left
    · (intro _ hSw; (obtain ⟨hS1, hS2, hS3, -, hS5⟩ := hSw); first | (go_simp; done) | (go_simp; with_reducible rfl))
    try simp only [Act.put, List.setIfInBounds_toArray, List.set_cons_zero, List.set_cons_succ]
    refine K_take (i := 6) (v := ?_) rfl (by kernel_rfl) (by kernel_rfl) (by kernel_rfl) (by kernel_rfl) (by kernel_rfl) (fun _ _ _ h => h) (Or.inl ⟨by rfl, ?_⟩) (by assumption) ?_
    rotate_left
    · (intro _ hSw; (obtain ⟨hS1, hS2, hS3, -, hS5⟩ := hSw); first | (go_simp; done) | (go_simp; with_reducible rfl))
    try simp only [Act.put, List.setIfInBounds_toArray, List.set_cons_zero, List.set_cons_succ]
    refine K_take (i := 7) (v := ?_) rfl (by kernel_rfl) (by kernel_rfl) (by kernel_rfl) (by kernel_rfl) (by kernel_rfl) (fun _ _ _ h => h) (Or.inl ⟨by rfl, ?_⟩) (by assumption) ?_
    rotate_left
    · (intro _ hSw; (obtain ⟨hS1, hS2, hS3, -, hS5⟩ := hSw); first | (go_simp; done) | (go_simp; with_reducible rfl))
    try simp only [Act.put, List.setIfInBounds_toArray, List.set_cons_zero, List.set_cons_succ]
    refine K_take (i := 8) (v := ?_) rfl (by kernel_rfl) (by kernel_rfl) (by kernel_rfl) (by kernel_rfl) (by kernel_rfl) (fun _ _ _ h => h) (Or.inl ⟨by rfl, ?_⟩) (by assumption) ?_
    rotate_left
    · (intro _ hSw; (obtain ⟨hS1, hS2, hS3, -, hS5⟩ := hSw); first | (go_simp; done) | (go_simp; with_reducible rfl))
    try simp only [Act.put, List.setIfInBounds_toArray, List.set_cons_zero, List.set_cons_succ]
    refine K_take (i := 9) (v := ?_) rfl (by kernel_rfl) (by kernel_rfl) (by kernel_rfl) (by kernel_rfl) (by kernel_rfl) (fun _ _ _ h => h) (Or.inl ⟨by rfl, ?_⟩) (by assumption) ?_
    rotate_left
    · (intro _ hSw; (obtain ⟨hS1, hS2, hS3, -, hS5⟩ := hSw); first | (go_simp; done) | (go_simp; with_reducible rfl))
    try simp only [Act.put, List.setIfInBounds_toArray, List.set_cons_zero, List.set_cons_succ]
    refine K_take (i := 10) (v := ?_) rfl (by kernel_rfl) (by kernel_rfl) (by kernel_rfl) (by kernel_rfl) (by kernel_rfl) (fun _ _ _ h => h) (Or.inl ⟨by rfl, ?_⟩) (by assumption) ?_
    rotate_left
    · (intro _ hSw; (obtain ⟨hS1, hS2, hS3, -, hS5⟩ := hSw); first | (go_simp; done) | (go_simp; with_reducible rfl))
    try simp only [Act.put, List.setIfInBounds_toArray, List.set_cons_zero, List.set_cons_succ]
    refine K_take (i := 11) (v := ?_) rfl (by kernel_rfl) (by kernel_rfl) (by kernel_rfl) (by kernel_rfl) (by kernel_rfl) (fun _ _ _ h => h) (Or.inl ⟨by rfl, ?_⟩) (by assumption) ?_
    rotate_left
    · (intro _ hSw; (obtain ⟨hS1, hS2, hS3, -, hS5⟩ := hSw); first | (go_simp; done) | (go_simp; with_reducible rfl))
    try simp only [Act.put, List.setIfInBounds_toArray, List.set_cons_zero, List.set_cons_succ]
    refine K_take (i := 12) (v := ?_) rfl (by kernel_rfl) (by kernel_rfl) (by kernel_rfl) (by kernel_rfl) (by kernel_rfl) (fun _ _ _ h => h) (Or.inl ⟨by rfl, ?_⟩) (by assumption) ?_
    rotate_left
    · (intro _ hSw; (obtain ⟨hS1, hS2, hS3, -, hS5⟩ := hSw); first | (go_simp; done) | (go_simp; with_reducible rfl))
    try simp only [Act.put, List.setIfInBounds_toArray, List.set_cons_zero, List.set_cons_succ]
    refine K_take (i := 13) (v := ?_) rfl (by kernel_rfl) (by kernel_rfl) (by kernel_rfl) (by kernel_rfl) (by kernel_rfl) (fun _ _ _ h => h) (Or.inl ⟨by rfl, ?_⟩) (by assumption) ?_
    rotate_left
    · (intro _ hSw; (obtain ⟨hS1, hS2, hS3, -, hS5⟩ := hSw); first | (go_simp; done) | (go_simp; with_reducible rfl))
    try simp only [Act.put, List.setIfInBounds_toArray, List.set_cons_zero, List.set_cons_succ]
    refine K_take (i := 14) (v := ?_) rfl (by kernel_rfl) (by kernel_rfl) (by kernel_rfl) (by kernel_rfl) (by kernel_rfl) (fun _ _ _ h => h) (Or.inl ⟨by rfl, ?_⟩) (by assumption) ?_
    rotate_left
    · (intro _ hSw; (obtain ⟨hS1, hS2, hS3, -, hS5⟩ := hSw); first | (go_simp; done) | (go_simp; with_reducible rfl))
    try simp only [Act.put, List.setIfInBounds_toArray, List.set_cons_zero, List.set_cons_succ]
    refine K_take (i := 15) (v := ?_) rfl (by kernel_rfl) (by kernel_rfl) (by kernel_rfl) (by kernel_rfl) (by kernel_rfl) (fun _ _ _ h => h) (Or.inl ⟨by rfl, ?_⟩) (by assumption) ?_
    rotate_left
    · (intro _ hSw; (obtain ⟨hS1, hS2, hS3, -, hS5⟩ := hSw); first | (go_simp; done) | (go_simp; with_reducible rfl))
    try simp only [Act.put, List.setIfInBounds_toArray, List.set_cons_zero, List.set_cons_succ]
    refine K_one (i := 16) (by kernel_rfl) rfl (fun K hK => ?_)
    go_simp
    refine hK.out _ _ (hHeld.fresh ((Keeps.refl _ _).alloc _)) (fun hHeld2 => ?_)
    clear hK K hHeld
    try simp only [Act.put, List.setIfInBounds_toArray, List.set_cons_zero, List.set_cons_succ]
    refine K_one (i := 17) (by kernel_rfl) rfl (fun K hK => ?_)
    refine step_append_mine _ (by rfl) _ _ 55 (by rfl) 84 _ 4 40 Tryd.underlying55 HI.out rfl (by decide) vo L.length (evCells L) (by rfl) (H.out.drew.evs.fresh ((Keeps.refl _ _).alloc _)) (some ⟨w.heap.size, 0, none⟩) 1 1 (⟨8, false, 0, p⟩ : Ev).cells (by rfl) rfl (fun h => (by cases h)) (ev_new w.drew ⟨8, false, 0, p⟩ 84) (ev_one _) (by unfold maxLen; omega) (by omega) ?_
    intro pp cc w1 hrow hgr hkp
    refine hK.out _ _ (hHeld2.kept hkp nC nB nG) (fun hHeld3 => ?_)
    clear hK K hHeld2
    try simp only [Act.put, List.setIfInBounds_toArray, List.set_cons_zero, List.set_cons_succ]
    have hS := H.out.drew.fresh ((Keeps.refl (fun _ => False) w.drew).alloc (.cells #[.int .i64 8, .bool false, .int .i64 0, .string ⟨p.toArray⟩] 84))
    have hF : Fresh w (w.drew.alloc (.cells #[.int .i64 8, .bool false, .int .i64 0, .string ⟨p.toArray⟩] 84)) := ((Keeps.refl (fun _ => False) w).drew).alloc _
    have b1 := hkp.heap_some hS.blk nC
    have b2 := hkp.heap_some hS.out nB
    have hvo : ∀ k, (Value.slice (some ⟨g, 0, none⟩) p.length cap).ownBlock = some k → ¬ vo.ownBlock = some k := fun k hk => own_ne2 hS.evs hS.txt (by decide) hk
    have b3 := own_kept hS.txt hkp hvo
    have hev : Evs w1 84 (.slice pp (L.length + 1) cc) (L ++ flushE p) := by rw [flushE_some H0.out]; exact Evs.snoc hrow
    have hm := Scan.more b1 b2 b3 hev
    have u0 := hkp.cell_some hS.cells.2.2.2.2.2.1 nB
    have u1 := (hkp.frozen (p := ⟨Bo, 0, none⟩) (World.block_lt_of_cell? _ _ hS.cells.2.2.2.2.2.1) nB).trans (hS.cells.2.2.2.2.2.2.2 0)
    have hmv : Mv (ScanD C Bo (.slice (some ⟨g, 0, none⟩) p.length cap) vo) (ScanD C Bo (.slice (some ⟨g, 0, none⟩) p.length cap) (.slice pp (L.length + 1) cc)) w (w1.setCell ⟨Bo, 0, none⟩ (.slice pp (L.length + 1) cc)) := by
      have s1 := hF.size
      refine (Mv.fresh hF).trans (Mv.of ((hkp.mono (fun k _ hk => .inr (.inr (.inr hk)))).setCell (p := ⟨Bo, 0, none⟩) (fun _ => .inr (.inl rfl)) _) (fun k h => h) (fun k hk => ?_))
      rcases hk with h | h | h | h
      · exact .inl (.inl h)
      · exact .inl (.inr (.inl h))
      · exact .inl (.inr (.inr (.inl h)))
      · rcases hgr k h with h | h
        · exact .inl (.inr (.inr (.inr h)))
        · exact .inr h
    have hcc := hm.cells
    have z3 := hcc.2.2.2.1
    have zf := hcc.2.2.2.2.2.2.1 3
    have ht := Scan.text (v' := .slice none 0 0) (p' := []) hm.blk hm.out (World.ownsRow_nil _ _ _ _) hm.evs
    have hmv2 : Mv (ScanD C Bo (.slice (some ⟨g, 0, none⟩) p.length cap) vo) (ScanD C Bo (.slice none 0 0) (.slice pp (L.length + 1) cc)) w ((w1.setCell ⟨Bo, 0, none⟩ (.slice pp (L.length + 1) cc)).setCell ⟨C, 3, none⟩ (.slice none 0 0)) := by
      refine hmv.trans (Mv.of ((Keeps.refl _ _).setCell (p := ⟨C, 3, none⟩) (fun _ => .inl rfl) _) (fun k h => h) (fun k hk => ?_))
      rcases hk with h | h | h | h
      · exact .inl (.inl h)
      · exact .inl (.inr (.inl h))
      · cases h
      · exact .inl (.inr (.inr (.inr h)))
    have HT := Lib.hid ht
    have HMV := Lib.hid hmv2
    clear b1 b2 hvo b3 hev hm hcc ht hmv hmv2 hS hF hkp hgr hrow HS
    refine K_take (i := 18) (v := ?_) rfl (by kernel_rfl) (by kernel_rfl) (by kernel_rfl) (by kernel_rfl) (by kernel_rfl) (fun _ _ _ h => h) (Or.inl ⟨by rfl, ?_⟩) (by assumption) ?_
    rotate_left
    · (intro _ hSw; (obtain ⟨hS1, hS2, hS3, -, hS5⟩ := hSw); first | (go_simp; done) | (go_simp; with_reducible rfl))
    try simp only [Act.put, List.setIfInBounds_toArray, List.set_cons_zero, List.set_cons_succ]
    clear hHeld3
    refine K_last (by kernel_rfl) rfl (fun K hK => ?_)
    go_simp
    refine hK.out _ _ ?_
    clear hK K
    try simp only [Act.put, List.setIfInBounds_toArray, List.set_cons_zero, List.set_cons_succ]
    refine K_done (by kernel_rfl) ?_ _
    go_wp2
    go_end0
    exact ⟨rfl, _, _, HT.out, HMV.out⟩
end Go.Proofs.YtbioecifiogffaaDoor
