/- blocks.Find, by what is done with each event; prose.Blocks. Condition: no more than 2^20 bytes; the library's own variable is there. -/
import Derived.Test.YtbioecifiogffaaDoorBlkAll
import Derived.Test.YtbioecifiogffaaDoorRegular
namespace Go.Proofs.YtbioecifiogffaaDoor
open Go.RowKit

/-- All blocks of a text. -/
def blkT (s : List UInt8) : List EvL := blkF (tot (lns s) + 1) 0 (lns s)
theorem lnsA_tot' (a : Ln) (s : List UInt8) : tot (lnsA a s) ≤ a.length + s.length + 1 := by
  induction s generalizing a with
  | nil => unfold lnsA; split <;> simp [tot]
  | cons c t ih =>
    unfold lnsA
    split
    · have := ih []
      rw [tot_cons]
      simp at this ⊢
      omega
    · have := ih (a ++ [c])
      simp at this ⊢
      omega
theorem lns_tot' (s : List UInt8) : tot (lns s) ≤ s.length + 1 := by
  have := lnsA_tot' [] s
  simpa [lns] using this
theorem blkT_len (s : List UInt8) : (blkT s).length ≤ 4 * (s.length + 1) := by
  have h1 := blkF_len (tot (lns s) + 1) 0 (lns s)
  have h2 := lns_tot' s
  unfold blkT
  omega

section
variable {k : Nat} {caps : Array Value} {R : List EvL} {F : World → List EvL → (Nat → Prop) → Prop}

set_option maxHeartbeats 2000000 in
set_option maxRecDepth 100000 in
theorem bFind_any (E : EmitOK k caps R F) (s : ByteArray) (w : World) (o : Nat → Prop) (hF : F w [] o) (hs : s.size ≤ 8388608) (hG : Gl w) (hR : ∃ rest, blkT s.data.toList ++ rest = R) :
    Calls Tryd.prog 46 #[.string s, fnV k caps] w fun e w' => e = .returned (.tuple #[]) ∧ ∃ o', F w' (blkT s.data.toList) o' ∧ Mv o o' w w' := by
  have htot := lns_tot' s.data.toList
  rw [show s.data.toList.length = s.size by simp] at htot
  have hlt := E.lt hF
  obtain ⟨W, hW⟩ : ∃ W, w.alloc (.cells #[fnV k caps, .int .i64 ((0 : Nat) : Int)] 124) = W := ⟨_, rfl⟩
  have hFW : Fresh w W := by rw [← hW]; exact (Keeps.refl _ _).alloc _
  have hz : w.heap.size < W.heap.size := by rw [← hW]; simp
  have hfd : Fnd W w.heap.size (fnV k caps) 0 := by unfold Fnd; rw [← hW]; exact heap_alloc_new w _
  have nC : ¬ o w.heap.size := fun h => by have := hlt _ h; omega
  have hli := fun (W' : World) (hW' : Fresh W W') => pLines_any s W' (by omega) ((hG.fresh hFW).fresh hW')
  have hal := fun (W' : World) (hW' : Fresh W W') (g : Nat) (v : Value) (hv : LnAt W' g v (lns s.data.toList)) (hg : W.heap.size ≤ g) => all_any E (tot (lns s.data.toList) + 1) w.heap.size 0 g v (lns s.data.toList) W' [] o (hfd.fresh hW') hv (E.fresh hF (hFW.tr hW')) nC (fun _ => ⟨fun h => by have := hlt _ h; omega, by omega⟩) (by omega) (by omega) (by omega) (by simpa [blkT] using hR)
  have HLI := Lib.hid hli
  have HAL := Lib.hid hal
  have HFW := Lib.hid hFW
  clear hli hal hFW hfd hF hR E hG hlt htot
  unfold fnV at *
  go_enter Tryd.func46, Tryd.ntmps46
  go_wp2_with fail
  rw [show ((0 : Nat) : Int) = 0 from rfl] at hW
  rw [hW]
  clear hW
  refine (HLI.out _ (Keeps.refl _ _)).mono ?_
  rintro e w2 ⟨v, rfl, hv, hk2⟩
  have hall := HAL.out w2 hk2 _ v hv (Nat.le_refl _)
  have HALL := Lib.hid hall
  have HK2 := Lib.hid hk2
  clear hall hk2 hv
  go_wp2_with fail
  refine HALL.out.mono ?_
  rintro e w3 ⟨rfl, o', hF3, hm3⟩
  go_wp2
  go_end0
  exact ⟨rfl, o', by simpa [blkT] using hF3, (Mv.fresh (HFW.out.tr HK2.out)).trans hm3⟩
end

/-- The list that prose.Blocks gathers: its variable is block B. -/
def BlkF (B : Nat) (w : World) (L : List EvL) (o : Nat → Prop) : Prop :=
  ∃ v, w.heap[B]? = some (.cells #[v] 55 (0, 0)) ∧ Evs w 84 v (EL L) ∧ ∀ b, o b ↔ (b = B ∨ v.ownBlock = some b)

set_option maxHeartbeats 2000000 in
set_option maxRecDepth 100000 in
theorem blkF_emit (B : Nat) (R : List EvL) (hR : R.length ≤ 268435456) : EmitOK 47 #[.pointer (some ⟨B, 0, none⟩)] R (BlkF B) where
  enter := enters_of Tryd.func47 (by kernel_rfl) rfl
  lt := by
    rintro w L o ⟨v, hb, he, ho⟩ b h
    rcases (ho b).1 h with h | h
    · rw [h]; exact (Array.getElem?_eq_some_iff.1 hb).1
    · exact own_lt he h
  keep := by
    rintro D w w' L o ⟨v, hb, he, ho⟩ hk hD
    exact ⟨v, hk.heap_some hb (fun h => hD _ h ((ho _).2 (.inl rfl))), he.kept hk (fun b hb' h => hD _ h ((ho _).2 (.inr hb'))), ho⟩
  call := by
    rintro x w L o ⟨v, hb, he, ho⟩ ⟨rest, hr⟩
    obtain ⟨q, c, rfl, -, -, -⟩ := own_form he
    have hlen : (EL L).length + 1 ≤ 268435456 := by rw [← hr] at hR; simp [EL] at hR ⊢; omega
    have hn : ¬ (Value.slice q (EL L).length c).ownBlock = some B := own_ne he hb (by decide)
    have hcol : EL (L ++ [x]) = EL L ++ [x.1] := by simp [EL]
    obtain ⟨e, lf⟩ := x
    simp only at hcol
    obtain ⟨W, hW⟩ : ∃ W, w.alloc (.cells #[.int .i64 e.kind, .bool e.fin, .int .i64 e.level, .string ⟨e.text.toArray⟩] 84) = W := ⟨_, rfl⟩
    have hFW : Fresh w W := by rw [← hW]; exact (Keeps.refl _ _).alloc _
    have hbW := hFW.heap_some hb (fun h => h)
    have cB : W.cell? ⟨B, 0, none⟩ = some (.slice q (EL L).length c) := by rw [Lib.cell_of_heap hbW]; rfl
    have t3 : W.heap[w.heap.size]? = some (.cells #[.int .i64 e.kind, .bool e.fin, .int .i64 e.level, .string ⟨e.text.toArray⟩] 84 (0, 0)) := by rw [← hW]; exact heap_alloc_new w _
    have c0 : W.cell? ⟨w.heap.size, 0, none⟩ = some (.int .i64 e.kind) := by rw [Lib.cell_of_heap t3]; rfl
    have c1 : W.cell? ⟨w.heap.size, 1, none⟩ = some (.bool e.fin) := by rw [Lib.cell_of_heap t3]; rfl
    have c2 : W.cell? ⟨w.heap.size, 2, none⟩ = some (.int .i64 e.level) := by rw [Lib.cell_of_heap t3]; rfl
    have c3 : W.cell? ⟨w.heap.size, 3, none⟩ = some (.string ⟨e.text.toArray⟩) := by rw [Lib.cell_of_heap t3]; rfl
    have hrow : (W.alloc (.cells #[.int .i64 e.kind, .bool e.fin, .int .i64 e.level, .string ⟨e.text.toArray⟩] 84)).ownsRow 0 84 4 (.slice q (EL L).length c) (EL L).length (evCells (EL L)) := (he.fresh hFW).fresh ((Keeps.refl (fun _ => False) _).alloc _)
    have HI := Lib.hid Tryd.infoAE
    have HROW := Lib.hid hrow
    have HB := Lib.hid hbW
    have HO := Lib.hid ho
    have HN := Lib.hid hn
    have HFW := Lib.hid hFW
    have HCOL := Lib.hid hcol
    have hsz : w.heap.size ≤ W.heap.size := hFW.size
    clear hb he ho hn hr hR hbW t3 hrow hFW hcol
    unfold evV
    go_enter Tryd.func47, Tryd.ntmps47
    go_wp2_with (at_builtin; refine wpList_append_mine _ rfl _ _ 55 rfl 84 _ 4 40 Tryd.underlying55 HI.out rfl (by decide) _ _ _ rfl HROW.out _ 1 1 e.cells rfl rfl (fun h => (by cases h)) (ev_new W e 84) (ev_one _) (by unfold maxLen; omega) (by omega) ?_)
    intro p7 c7 w7 hr7 hg7 hk7
    have hFa : Fresh w (W.alloc (.cells #[.int .i64 e.kind, .bool e.fin, .int .i64 e.level, .string ⟨e.text.toArray⟩] 84)) := HFW.out.alloc _
    have hB7 := hk7.heap_some (((Keeps.refl (fun _ => False) W).alloc _).heap_some HB.out (fun h => h)) HN.out
    have cB7 : w7.cell? ⟨B, 0, none⟩ = some (.slice q (EL L).length c) := by rw [Lib.cell_of_heap hB7]; rfl
    have fB7 : w7.frozen? ⟨B, 0, none⟩ = false := Lib.frozen_of_heap hB7 0
    have hn7 : ∀ b, (Value.slice p7 ((EL L).length + 1) c7).ownBlock = some b → ¬ b = B := fun b h1 h2 => by
      subst h2
      exact own_ne hr7 hB7 (by decide) h1
    have he7 := (Evs.snoc hr7).kept (box_keeps w7 B (.slice p7 ((EL L).length + 1) c7)) hn7
    have hm7 : Mv o (fun b => b = B ∨ (Value.slice p7 ((EL L).length + 1) c7).ownBlock = some b) w (w7.setCell ⟨B, 0, none⟩ (.slice p7 ((EL L).length + 1) c7)) := by
      refine ⟨(hFa.mono (fun _ _ h => h.elim) : Keeps o w _).tr ((hk7.mono (fun k _ h => (HO.out k).2 (.inr h))).setCell (p := ⟨B, 0, none⟩) (fun _ => (HO.out _).2 (.inl rfl)) _), fun j hj => ?_⟩
      rcases hj with h | h
      · exact .inl ((HO.out j).2 (.inl h))
      · rcases hg7 j h with h | h
        · exact .inl ((HO.out j).2 (.inr h))
        · exact .inr (Nat.le_trans hFa.size h)
    have HB7 := Lib.hid hB7
    have HE7 := Lib.hid he7
    have HM7 := Lib.hid hm7
    clear hr7 hg7 hk7 hFa hB7 hn7 he7 hm7
    go_wp2
    go_end0
    refine ⟨rfl, _, ⟨_, box_put HB7.out, ?_, fun b => Iff.rfl⟩, HM7.out⟩
    rw [HCOL.out]
    exact HE7.out

set_option maxHeartbeats 2000000 in
set_option maxRecDepth 100000 in
theorem pBlocks_any (s : ByteArray) (w : World) (hs : s.size ≤ 1048576) (hG : Gl w) :
    Calls Tryd.prog 25 #[.string s] w fun e w' => ∃ v, e = .returned v ∧ Evs w' 84 v (EL (blkT (regular s))) ∧ (∀ k, v.ownBlock = some k → w.heap.size ≤ k) ∧ Fresh w w' := by
  have hrl := regular_length s
  have hbl := blkT_len (regular s)
  have hmf : ∀ (fn : Fn) (first cap : Array Value) (w : World), (Instr.makeFunc fn first cap).run Tryd.prog w = .ok (.func fn first cap) w := fun _ _ _ _ => rfl
  obtain ⟨W, hW⟩ : ∃ W, w.alloc (.cells #[.slice none 0 0] 55) = W := ⟨_, rfl⟩
  have hFW : Fresh w W := by rw [← hW]; exact (Keeps.refl _ _).alloc _
  have hz : w.heap.size < W.heap.size := by rw [← hW]; simp
  have hb : W.heap[w.heap.size]? = some (.cells #[.slice none 0 0] 55 (0, 0)) := by rw [← hW]; exact heap_alloc_new w _
  have hF0 : BlkF w.heap.size W [] (fun b => b = w.heap.size) := ⟨_, hb, Evs.nil _ _, fun b => by simp [Value.ownBlock]⟩
  have E := blkF_emit w.heap.size (blkT (regular s)) (by omega)
  have hre := Regular_any s W (by omega)
  have hfi := fun (W' : World) (hW' : Fresh W W') => bFind_any E ⟨(regular s).toArray⟩ W' (fun b => b = w.heap.size) (E.fresh hF0 hW') (by simp [ByteArray.size]; omega) ((hG.fresh hFW).fresh hW') ⟨[], by simp⟩
  simp only [show (⟨(regular s).toArray⟩ : ByteArray).data.toList = regular s from rfl] at hfi
  unfold fnV at hfi
  have HRE := Lib.hid hre
  have HFI := Lib.hid hfi
  have HFW := Lib.hid hFW
  clear hre hfi hFW hb hF0 E hG
  go_enter Tryd.func25, Tryd.ntmps25
  go_wp2_with fail
  clear hW
  refine HRE.out.mono ?_
  rintro e w2 ⟨rfl, hk2⟩
  have HK2 := Lib.hid hk2
  clear hk2
  go_wp2_with fail
  refine (HFI.out _ HK2.out).mono ?_
  rintro e w3 ⟨rfl, o', ⟨v, hb3, he3, ho3⟩, hm3⟩
  have c3 : w3.cell? ⟨w.heap.size, 0, none⟩ = some v := by rw [Lib.cell_of_heap hb3]; rfl
  have hk3 : Fresh w w3 := (HFW.out.tr HK2.out).trans hm3.1 (fun j h1 h2 => by omega)
  have ho4 : ∀ k, v.ownBlock = some k → w.heap.size ≤ k := fun k hk => by
    have h1 := HK2.out.size
    rcases hm3.2 k ((ho3 k).2 (.inr hk)) with h | h
    · omega
    · omega
  have HE := Lib.hid he3
  have HO := Lib.hid ho4
  have HK := Lib.hid hk3
  clear hb3 he3 ho3 hm3 hk3 ho4
  go_wp2
  go_ret
  exact ⟨_, rfl, HE.out, HO.out, HK.out⟩
end Go.Proofs.YtbioecifiogffaaDoor
