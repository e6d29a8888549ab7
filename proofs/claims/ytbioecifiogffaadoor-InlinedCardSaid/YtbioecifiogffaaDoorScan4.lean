/- inline.scanner: around, by what part does. Condition: no more than 10^9 events, no more than 2^24 bytes. -/
import Derived.Test.YtbioecifiogffaaDoorScan3
namespace Go.Proofs.YtbioecifiogffaaDoor
open Go.RowKit

def OutD (Bo : Nat) (vo : Value) (k : Nat) : Prop := k = Bo ∨ vo.ownBlock = some k
/-- What part does with texts of fewer than n bytes. -/
def PartOK (n : Nat) : Prop :=
  ∀ (s : ByteArray) (ins : Bool) (Bo : Nat) (vo : Value) (L : List Ev) (w : World), w.heap[Bo]? = some (.cells #[vo] 55 (0, 0)) → Evs w 84 vo L → s.size < n → s.size ≤ 16777216 → L.length + 2 * s.size ≤ 1000000000 → Gl w → Hi (OutD Bo vo) →
    Calls Tryd.prog 61 #[.string s, .bool ins, .pointer (some ⟨Bo, 0, none⟩)] w fun e w' => e = .returned (.tuple #[]) ∧ ∃ vo', w'.heap[Bo]? = some (.cells #[vo'] 55 (0, 0)) ∧ Evs w' 84 vo' (L ++ inlF n ins s.data.toList []) ∧ Mv (OutD Bo vo) (OutD Bo vo') w w'

/-- A scanner stands on while its events grow. -/
theorem Scan.part {w w' : World} {C Bo : Nat} {v vo vo' : Value} {s : ByteArray} {i : Nat} {ins : Bool} {p : List UInt8} {L L' : List Ev} (h : Scan w C Bo v vo s i ins p L)
    (hb : w'.heap[Bo]? = some (.cells #[vo'] 55 (0, 0))) (he : Evs w' 84 vo' L') (hm : Mv (OutD Bo vo) (OutD Bo vo') w w') :
    Scan w' C Bo v vo' s i ins p L' ∧ Mv (ScanD C Bo v vo) (ScanD C Bo v vo') w w' := by
  have nC : ¬ OutD Bo vo C := by
    rintro (hk | hk)
    · exact h.neCB hk
    · exact own_ne h.evs h.blk (by decide) hk
  have nV : ∀ k, v.ownBlock = some k → ¬ OutD Bo vo k := by
    rintro k hk (rfl | h2)
    · exact own_ne h.txt h.out (by decide) hk
    · exact own_ne2 h.evs h.txt (by decide) hk h2
  refine ⟨⟨hm.1.heap_some h.blk nC, hb, own_kept h.txt hm.1 nV, he⟩, hm.1.mono (fun k _ hk => ?_), fun k hk => ?_⟩
  · rcases hk with h1 | h1
    · exact .inr (.inl h1)
    · exact .inr (.inr (.inr h1))
  · rcases hk with h1 | h1 | h1 | h1
    · exact .inl (.inl h1)
    · exact .inl (.inr (.inl h1))
    · exact .inl (.inr (.inr (.inl h1)))
    · rcases hm.2 k (.inr h1) with (h2 | h2) | h2
      · exact .inl (.inr (.inl h2))
      · exact .inl (.inr (.inr (.inr h2)))
      · exact .inr h2

theorem flushE_le (p : List UInt8) : (flushE p).length ≤ 1 := by unfold flushE; split <;> simp

set_option maxHeartbeats 4000000 in
set_option maxRecDepth 100000 in
theorem around_any (n : Nat) (IH : PartOK n) (C Bo : Nat) (v vo : Value) (s : ByteArray) (i : Nat) (ins : Bool) (p : List UInt8) (L : List Ev) (e : Ev) (sub : ByteArray) (ins' : Bool) (w : World) (h : Scan w C Bo v vo s i ins p L) (hG : Gl w) (hH : Hi (ScanD C Bo v vo))
    (hp : p.length ≤ 16777216) (hn : sub.size < n) (hs : sub.size ≤ 16777216) (hL : L.length + (flushE p).length + 1 + 2 * sub.size ≤ 1000000000) :
    Calls Tryd.prog 84 #[.pointer (some ⟨C, 0, none⟩), .agg #[.int .i64 e.kind, .bool e.fin, .int .i64 e.level, .string ⟨e.text.toArray⟩], .string sub, .bool ins'] w fun r w' => r = .returned (.tuple #[]) ∧ ∃ v' vo', Scan w' C Bo v' vo' s i ins [] (L ++ flushE p ++ e :: (inlF n ins' sub.data.toList [] ++ [endE e])) ∧ Mv (ScanD C Bo v vo) (ScanD C Bo v' vo') w w' := by
  obtain ⟨W, hW⟩ : ∃ W, W = w.alloc (.cells #[.int .i64 e.kind, .bool e.fin, .int .i64 e.level, .string ⟨e.text.toArray⟩] 84) := ⟨_, rfl⟩
  have hF : Fresh w W := by rw [hW]; exact (Keeps.refl _ w).alloc _
  have e0 : W.cell? ⟨w.heap.size, 0, none⟩ = some (.int .i64 e.kind) := by rw [hW]; simp
  have e1 : W.cell? ⟨w.heap.size, 1, none⟩ = some (.bool e.fin) := by rw [hW]; simp
  have e2 : W.cell? ⟨w.heap.size, 2, none⟩ = some (.int .i64 e.level) := by rw [hW]; simp
  have e3 : W.cell? ⟨w.heap.size, 3, none⟩ = some (.string ⟨e.text.toArray⟩) := by rw [hW]; simp
  have htl := tell_any C Bo v vo s i ins p L e W (h.fresh hF) (by omega) (by omega)
  have hnE : ¬ ScanD C Bo v vo w.heap.size := fun hk => Nat.lt_irrefl _ (h.lt hk)
  obtain ⟨M, hMd⟩ : ∃ M, L ++ flushE p ++ [e] = M := ⟨_, rfl⟩
  rw [hMd] at htl
  have hMl : M.length = L.length + (flushE p).length + 1 := by rw [← hMd]; simp; omega
  have hWs : w.heap.size < W.heap.size := World.block_lt_of_cell? W ⟨w.heap.size, 0, none⟩ e0
  have hMl2 : M.length + 2 * sub.size ≤ 1000000000 := by omega
  obtain ⟨I, hI⟩ : ∃ I, inlF n ins' sub.data.toList [] = I := ⟨_, rfl⟩
  have hIl : I.length ≤ 2 * sub.size := by have := inlF_length n ins' sub.data.toList []; rw [hI, flushE_nil] at this; simpa using this
  have hR : L ++ flushE p ++ e :: (I ++ [endE e]) = M ++ I ++ [endE e] := by rw [← hMd]; simp
  rw [hI, hR]
  have HTL := Lib.hid htl
  have HF := Lib.hid hF
  have HNE := Lib.hid hnE
  have HI := Lib.hid hI
  have HIH := Lib.hid IH
  have HG := Lib.hid (hG.fresh hF)
  have HH := Lib.hid hH
  clear htl hF hnE h hMd hMl hI hR IH hL hG hH
  go_enter Tryd.func84, Tryd.ntmps84
  go_upto_region 1 with fail
  rw [← hW]
  clear hW
  go_wp2_with fail
  refine HTL.out.mono ?_
  rintro r w2 ⟨rfl, v2, vo2, hs2, hm2⟩
  obtain ⟨c0, c1, c2, c3, c4, o0, hfC, hfB⟩ := hs2.cells
  have f0 := hm2.1.cell_some e0 HNE.out
  obtain ⟨hG2, hH2⟩ := HG.out.mv hm2 HH.out
  have hpt := HIH.out sub ins' Bo vo2 M w2 hs2.out hs2.evs hn hs hMl2 hG2 (fun k hk => hH2 k (hk.elim (fun h => .inr (.inl h)) (fun h => .inr (.inr (.inr h)))))
  rw [HI.out] at hpt
  have HPT := Lib.hid hpt
  have HS2 := Lib.hid hs2
  have HM2 := Lib.hid hm2
  clear hpt hs2 hm2 e0 e1 e2 e3 hG2 hH2
  go_wp2_with fail
  refine HPT.out.mono ?_
  rintro r w3 ⟨rfl, vo3, hb3, he3, hm3⟩
  obtain ⟨hs4, hm4⟩ := HS2.out.part hb3 he3 hm3
  have hlt : w.heap.size < w2.heap.size := World.block_lt_of_cell? _ _ f0
  have hnE2 : ¬ ScanD C Bo v2 vo2 w.heap.size := fun hk => by
    rcases HM2.out.2 _ hk with h1 | h1
    · exact HNE.out h1
    · omega
  have g0 := hm4.1.cell_some f0 hnE2
  have htl2 := tell_any C Bo v2 vo3 s i ins [] (M ++ I) (endE e) w3 hs4 (by simp) (by simp; omega)
  rw [flushE_nil, List.append_nil] at htl2
  have HTL2 := Lib.hid htl2
  have HM4 := Lib.hid hm4
  clear hb3 he3 hm3 hs4 hm4 htl2 hnE2 f0 c0 c1 c2 c3 c4 o0 hfC hfB
  go_wp2_with fail
  refine HTL2.out.mono ?_
  rintro r w4 ⟨rfl, v4, vo4, hs4, hm4⟩
  have hfin : Mv (ScanD C Bo v vo) (ScanD C Bo v4 vo4) w w4 := (Mv.fresh HF.out).trans (HM2.out.trans (HM4.out.trans hm4))
  have HS4 := Lib.hid hs4
  have HMF := Lib.hid hfin
  clear hs4 hm4 hfin
  go_wp2
  go_end0
  exact ⟨rfl, _, _, HS4.out, HMF.out⟩
end Go.Proofs.YtbioecifiogffaaDoor
