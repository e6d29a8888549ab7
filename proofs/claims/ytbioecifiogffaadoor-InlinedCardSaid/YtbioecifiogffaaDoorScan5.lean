/- inline.scanner: step at a backslash. Condition: no more than 10^9 events, no more than 2^24 bytes. -/
import Derived.Test.YtbioecifiogffaaDoorScan4
import Derived.Test.YtbioecifiogffaaDoorInlProg2
import Derived.BigQuiet
import Derived.Deep.QuietTactic
import Derived.Deep.Draws
import Derived.IntWalk
namespace Go.Proofs.YtbioecifiogffaaDoor
open Go.RowKit

/-- What step comes to at byte b, before t, with text p gathered. -/
def StepPost (n C Bo : Nat) (v vo : Value) (s : ByteArray) (i : Nat) (ins : Bool) (p : List UInt8) (L : List Ev) (w : World) (tk : Tok × Nat) (r : Ending) (w' : World) : Prop :=
  match tk with
  | (.ch _, 0) => r = .returned (.bool false) ∧ Fresh w w'
  | (.ch c, k + 1) => r = .returned (.bool true) ∧ ∃ v' vo', Scan w' C Bo v' vo' s (i + k + 2) ins (p ++ [c]) L ∧ Mv (ScanD C Bo v vo) (ScanD C Bo v' vo') w w'
  | (.one e, k) => r = .returned (.bool true) ∧ ∃ v' vo', Scan w' C Bo v' vo' s (i + k + 1) ins [] (L ++ flushE p ++ [e]) ∧ Mv (ScanD C Bo v vo) (ScanD C Bo v' vo') w w'
  | (.sub e s' i', k) => r = .returned (.bool true) ∧ ∃ v' vo', Scan w' C Bo v' vo' s (i + k + 1) ins [] (L ++ flushE p ++ e :: (inlF n i' s' [] ++ [endE e])) ∧ Mv (ScanD C Bo v vo) (ScanD C Bo v' vo') w w'

theorem Tryd.infoU8 : (Tryd.prog.info? 5).map (fun i => (i.zero, i.size, i.bytes)) = some (some (.int .u8 0), 1, 1) := by kernel_rfl

/-- What the statement c.text = append(c.text, x) reads. -/
def TextS (C : Nat) (v : Value) (i : Nat) (w : World) : Prop := w.cell? ⟨C, 3, none⟩ = some v ∧ w.cell? ⟨C, 1, none⟩ = some (.int .i64 i)
theorem TextS.kept {D : Nat → Prop} {w w' : World} {C i : Nat} {v : Value} (h : TextS C v i w) (hk : Keeps D w w') (hC : ¬ D C) : TextS C v i w' := ⟨hk.cell_some h.1 hC, hk.cell_some h.2 hC⟩
theorem byte_new (w : World) (c : UInt8) (t : TypeId) : ∀ ad, some (⟨w.heap.size, 0, none⟩ : Addr) = some ad → ∀ j u, [Value.int .u8 c.toNat][j]? = some u → (w.alloc (.cells #[.int .u8 c.toNat] t)).cell? (ad.add j) = some u := by
  intro ad had j u hj
  cases had
  match j, hj with
  | 0, hj => simp at hj; subst hj; simp [Addr.add]
theorem byteCells_snoc (p : List UInt8) (c : UInt8) : Lib.byteCells (p ++ [c]) = Lib.byteCells p ++ [Value.int .u8 c.toNat] := by simp [Lib.byteCells]
/-- Behind the append: the new row is stored. -/
theorem Scan.grow {w W w1 : World} {C Bo : Nat} {v vo : Value} {s : ByteArray} {i : Nat} {ins : Bool} {p : List UInt8} {L : List Ev} {c : UInt8} {pp : Option Addr} {cc : Nat} (h : Scan w C Bo v vo s i ins p L) (hF : Fresh w W)
    (hrow : w1.ownsRow 0 5 1 (.slice pp (p.length + 1) cc) (p.length + 1) (Lib.byteCells p ++ [Value.int .u8 c.toNat])) (hgr : Grow W v (.slice pp (p.length + 1) cc)) (hkp : Keeps (fun k => v.ownBlock = some k) W w1) :
    Scan (w1.setCell ⟨C, 3, none⟩ (.slice pp (p.length + 1) cc)) C Bo (.slice pp (p.length + 1) cc) vo s i ins (p ++ [c]) L ∧ Mv (ScanD C Bo v vo) (ScanD C Bo (.slice pp (p.length + 1) cc) vo) w (w1.setCell ⟨C, 3, none⟩ (.slice pp (p.length + 1) cc)) ∧
    w1.cell? ⟨C, 3, none⟩ = some v ∧ w1.frozen? ⟨C, 3, none⟩ = false := by
  have hS := h.fresh hF
  have nC : ¬ v.ownBlock = some C := own_ne hS.txt hS.blk (by decide)
  have nB : ¬ v.ownBlock = some Bo := own_ne hS.txt hS.out (by decide)
  have b1 := hkp.heap_some hS.blk nC
  have b2 := hkp.heap_some hS.out nB
  have b4 := hS.evs.kept hkp (fun k hk h2 => own_ne2 hS.evs hS.txt (by decide) h2 hk)
  refine ⟨Scan.text b1 b2 ?_ b4, ?_, hkp.cell_some hS.cells.2.2.2.1 nC, (hkp.frozen (p := ⟨C, 3, none⟩) (World.block_lt_of_cell? _ _ hS.cells.2.2.2.1) nC).trans (hS.cells.2.2.2.2.2.2.1 3)⟩
  · rw [byteCells_snoc, List.length_append]; exact hrow
  · refine (Mv.fresh hF).trans (Mv.of ((hkp.mono (D' := ScanD C Bo v vo) (fun k _ hk => .inr (.inr (.inl hk)))).setCell (p := ⟨C, 3, none⟩) (fun _ => .inl rfl) _) (fun k h => h) (fun k hk => ?_))
    rcases hk with h1 | h1 | h1 | h1
    · exact .inl (.inl h1)
    · exact .inl (.inr (.inl h1))
    · rcases hgr k h1 with h2 | h2
      · exact .inl (.inr (.inr (.inl h2)))
      · exact .inr h2
    · exact .inl (.inr (.inr (.inr h1)))
/-- The place is stored: what stays. -/
theorem Mv.at {w w1 : World} {C Bo : Nat} {v vo v' vo' : Value} (h : Mv (ScanD C Bo v vo) (ScanD C Bo v' vo') w w1) (hC : C < w.heap.size) (u : Value) : Mv (ScanD C Bo v vo) (ScanD C Bo v' vo') w (w1.setCell ⟨C, 1, none⟩ u) :=
  h.trans (Mv.of ((Keeps.refl _ _).setCell (p := ⟨C, 1, none⟩) (fun _ => .inl rfl) _) (fun k h => h) (fun k hk => .inl hk))

set_option maxHeartbeats 4000000 in
set_option maxRecDepth 100000 in
theorem step_esc (n C Bo : Nat) (v vo : Value) (s : ByteArray) (i : Nat) (ins : Bool) (p : List UInt8) (L : List Ev) (w : World) (h : Scan w C Bo v vo s i ins p L) (hs : s.size ≤ 16777216) (hp : p.length ≤ 16777216)
    (c : UInt8) (t' : List UInt8) (hi : i < s.size) (ht : s.data.toList.drop (i + 1) = c :: t') (hc : sgn c = true) :
    Calls Tryd.prog 69 #[.pointer (some ⟨C, 0, none⟩), .int .u8 92] w (StepPost n C Bo v vo s i ins p L w (.ch c, 1)) := by
  obtain ⟨c0, c1, c2, c3, c4, o0, hfC, hfB⟩ := h.cells
  have hes := fun W : World => escaped_any (s.extract (i + 1) s.size) W
  rw [rest_list, ht, show esc (c :: t') = true from hc] at hes
  have w1 : IntKind.i64.wrap ((i : Int) + 1) = (i : Int) + 1 := IntWalk.i64_in _ (by omega)
  have w2 : (0 : Int) ≤ (i : Int) + 1 := by omega
  have w3 : ((i : Int) + 1).toNat = i + 1 := by omega
  have w4 : (i : Int) + 1 ≤ (s.size : Int) := by omega
  have HES := Lib.hid hes
  have H := Lib.hid h
  clear hes h
  go_enter Tryd.func69, Tryd.ntmps69
  go_wp2_with fail
  go_quiet (fail)
  obtain ⟨R, hR⟩ : ∃ R, s.extract (i + 1) s.size = R := ⟨_, rfl⟩
  rw [hR]
  have hRl : R.data.toList = c :: t' := by rw [← hR, rest_list, ht]
  have hes := HES.out
  rw [hR] at hes
  have HES := Lib.hid hes
  have hR0 : 0 < R.size := by have : R.data.toList.length = t'.length + 1 := by rw [hRl]; rfl
                              simp at this; omega
  have hRc : R[0]'hR0 = c := by
    have := drop_lt hR0
    rw [List.drop_zero, hRl] at this
    injection this with h1 _
    exact h1.symm
  clear hR hRl hes
  have hF : Fresh w (w.drewN nq) := (Keeps.refl _ w).drewN nq
  go_wp2_with fail
  refine (HES.out _).mono ?_
  rintro e w2 ⟨rfl, hk2⟩
  have hF2 := hF.tr hk2
  have hs0 : TextS C v i w2.drew := TextS.kept ⟨c3, c1⟩ (hF2.tr ((Keeps.refl _ w2).drew)) (fun h => h)
  have HF2 := Lib.hid hF2
  have HI := Lib.hid Tryd.infoU8
  clear hF hk2 hF2 hfC hfB c0 c2 c4 o0
  go_upto_region 7 with fail
  refine wp_region_K 11 (TextS C v i) (by kernel_rfl) ?_
  have hHeld := hs0
  clear hs0
  refine K_take (i := 0) (v := ?_) rfl (by kernel_rfl) (by kernel_rfl) (by kernel_rfl) (by kernel_rfl) (by kernel_rfl) (fun _ _ _ h => h) (Or.inl ⟨by rfl, ?_⟩) (by assumption) ?_
  rotate_left
  · (intro _ hSw; (obtain ⟨hS1, hS2⟩ := hSw); first | (go_simp; done) | (go_simp; with_reducible rfl))
  try simp only [Act.put, List.setIfInBounds_toArray, List.set_cons_zero, List.set_cons_succ]
  refine K_take (i := 1) (v := ?_) rfl (by kernel_rfl) (by kernel_rfl) (by kernel_rfl) (by kernel_rfl) (by kernel_rfl) (fun _ _ _ h => h) (Or.inl ⟨by rfl, ?_⟩) (by assumption) ?_
  rotate_left
  · (intro _ hSw; (obtain ⟨hS1, hS2⟩ := hSw); first | (go_simp; done) | (go_simp; with_reducible rfl))
  try simp only [Act.put, List.setIfInBounds_toArray, List.set_cons_zero, List.set_cons_succ]
  refine K_take (i := 2) (v := ?_) rfl (by kernel_rfl) (by kernel_rfl) (by kernel_rfl) (by kernel_rfl) (by kernel_rfl) (fun _ _ _ h => h) (Or.inl ⟨by rfl, ?_⟩) (by assumption) ?_
  rotate_left
  · (intro _ hSw; (obtain ⟨hS1, hS2⟩ := hSw); first | (go_simp; done) | (go_simp; with_reducible rfl))
  try simp only [Act.put, List.setIfInBounds_toArray, List.set_cons_zero, List.set_cons_succ]
  refine K_take (i := 3) (v := ?_) rfl (by kernel_rfl) (by kernel_rfl) (by kernel_rfl) (by kernel_rfl) (by kernel_rfl) (fun _ _ _ h => h) (Or.inl ⟨by rfl, ?_⟩) (by assumption) ?_
  rotate_left
  · (intro _ hSw; (obtain ⟨hS1, hS2⟩ := hSw); first | (go_simp; done) | (go_simp; with_reducible rfl))
  try simp only [Act.put, List.setIfInBounds_toArray, List.set_cons_zero, List.set_cons_succ]
  refine K_take (i := 4) (v := ?_) rfl (by kernel_rfl) (by kernel_rfl) (by kernel_rfl) (by kernel_rfl) (by kernel_rfl) (fun _ _ _ h => h) (Or.inl ⟨by rfl, ?_⟩) (by assumption) ?_
  rotate_left
  · (intro _ hSw; (obtain ⟨hS1, hS2⟩ := hSw); first | (go_simp; done) | (go_simp; with_reducible rfl))
  try simp only [Act.put, List.setIfInBounds_toArray, List.set_cons_zero, List.set_cons_succ]
  refine K_take (i := 5) (v := ?_) rfl (by kernel_rfl) (by kernel_rfl) (by kernel_rfl) (by kernel_rfl) (by kernel_rfl) (fun _ _ _ h => h) (Or.inl ⟨by rfl, ?_⟩) (by assumption) ?_
  rotate_left
  · (intro _ hSw; (obtain ⟨hS1, hS2⟩ := hSw); first | (go_simp; done) | (go_simp; with_reducible rfl))
  try simp only [Act.put, List.setIfInBounds_toArray, List.set_cons_zero, List.set_cons_succ]
  refine K_take (i := 6) (v := ?_) rfl (by kernel_rfl) (by kernel_rfl) (by kernel_rfl) (by kernel_rfl) (by kernel_rfl) (fun _ _ _ h => h) (Or.inl ⟨by rfl, ?_⟩) (by assumption) ?_
  rotate_left
  · (intro _ hSw; (obtain ⟨hS1, hS2⟩ := hSw); first | (go_simp; done) | (go_simp; with_reducible rfl))
  try simp only [Act.put, List.setIfInBounds_toArray, List.set_cons_zero, List.set_cons_succ]
  refine K_one (i := 7) (by kernel_rfl) rfl (fun K hK => ?_)
  go_simp
  refine hK.out _ _ (hHeld.kept ((Keeps.refl (fun _ => False) _).alloc _) (fun h => h)) (fun hHeld2 => ?_)
  clear hK K hHeld
  try simp only [Act.put, List.setIfInBounds_toArray, List.set_cons_zero, List.set_cons_succ]
  have hF3 : Fresh w (w2.drew.alloc (.cells #[.int .u8 c.toNat] 5)) := (HF2.out.drew).alloc _
  refine K_one (i := 8) (by kernel_rfl) rfl (fun K hK => ?_)
  refine step_append_mine _ (by rfl) _ _ 94 (by rfl) 5 _ 1 1 Tryd.underlying94 HI.out rfl (by decide) v p.length (Lib.byteCells p) (by rfl) ((H.out.fresh hF3).txt) (some ⟨w2.heap.size, 0, none⟩) 1 1 [.int .u8 c.toNat] (by rfl) rfl (fun h => (by cases h)) (byte_new w2.drew c 5) (fun u hu => by simp at hu; rw [hu]; rfl) (by unfold maxLen; omega) (by omega) ?_
  intro pp cc w3 hrow hgr hkp
  obtain ⟨hm, hmv, z3, zf⟩ := H.out.grow hF3 hrow hgr hkp
  refine hK.out _ _ (hHeld2.kept hkp (own_ne (H.out.fresh hF3).txt (H.out.fresh hF3).blk (by decide))) (fun hHeld3 => ?_)
  clear hK K hHeld2
  try simp only [Act.put, List.setIfInBounds_toArray, List.set_cons_zero, List.set_cons_succ]
  have a1 := hm.cells.2.1
  have af := hm.cells.2.2.2.2.2.2.1 1
  have hat := hm.at (i + 2)
  have hmv2 := hmv.at (H.out.lt (.inl rfl)) (.int .i64 ((i + 2 : Nat) : Int))
  have HAT := Lib.hid hat
  have HMV := Lib.hid hmv2
  clear hrow hgr hkp hm hmv hF3 hat hmv2
  refine K_take (i := 9) (v := ?_) rfl (by kernel_rfl) (by kernel_rfl) (by kernel_rfl) (by kernel_rfl) (by kernel_rfl) (fun _ _ _ h => h) (Or.inl ⟨by rfl, ?_⟩) (by assumption) ?_
  rotate_left
  · (intro _ hSw; (obtain ⟨hS1, hS2⟩ := hSw); first | (go_simp; done) | (go_simp; with_reducible rfl))
  try simp only [Act.put, List.setIfInBounds_toArray, List.set_cons_zero, List.set_cons_succ]
  refine K_take (i := 10) (v := ?_) rfl (by kernel_rfl) (by kernel_rfl) (by kernel_rfl) (by kernel_rfl) (by kernel_rfl) (fun _ _ _ h => h) (Or.inl ⟨by rfl, ?_⟩) (by assumption) ?_
  rotate_left
  · (intro _ hSw; (obtain ⟨hS1, hS2⟩ := hSw); first | (go_simp; done) | (go_simp; with_reducible rfl))
  try simp only [Act.put, List.setIfInBounds_toArray, List.set_cons_zero, List.set_cons_succ]
  clear hHeld3
  refine K_last (by kernel_rfl) rfl (fun K hK => ?_)
  go_simp
  refine hK.out _ _ ?_
  clear hK K
  try simp only [Act.put, List.setIfInBounds_toArray, List.set_cons_zero, List.set_cons_succ]
  refine K_done (by kernel_rfl) ?_ _
  go_wp2
  go_ret
  exact ⟨rfl, _, _, HAT.out, HMV.out⟩
end Go.Proofs.YtbioecifiogffaaDoor
