/- inline.Find, prose.Inline, plain.Inline, proselaw.Inlined: the walk. Condition: the library's own variable is there. -/
import Derived.Test.YtbioecifiogffaaDoorPart
import Derived.Test.YtbioecifiogffaaDoorSameEv
import Derived.Test.YtbioecifiogffaaDoorRegular
import Derived.Test.YtbioecifiogffaaDoorInlRef6
namespace Go.Proofs.YtbioecifiogffaaDoor
open Go.RowKit

set_option maxHeartbeats 1000000 in
set_option maxRecDepth 100000 in
theorem Find_any (s : ByteArray) (w : World) (hs : s.size ≤ 16777216) (hG : Gl w) :
    Calls Tryd.prog 39 #[.string s] w fun e w' => ∃ v, e = .returned v ∧ Evs w' 84 v (inlF (s.size + 1) false s.data.toList []) ∧ (∀ k, v.ownBlock = some k → w.heap.size ≤ k) ∧ Fresh w w' := by
  obtain ⟨W, hW⟩ : ∃ W, W = w.alloc (.cells #[.slice none 0 0] 55) := ⟨_, rfl⟩
  have hF : Fresh w W := by rw [hW]; exact (Keeps.refl _ w).alloc _
  have hlt : w.heap.size < W.heap.size := by rw [hW]; simp
  have hb : W.heap[w.heap.size]? = some (.cells #[.slice none 0 0] 55 (0, 0)) := by rw [hW]; exact heap_alloc_new w _
  have hpt := part_any (s.size + 1) s false w.heap.size (.slice none 0 0) [] W hb (Evs.nil _ _) (by omega) hs (by simp; omega) (hG.fresh hF) (fun k hk => by
    rcases hk with h | h
    · rw [h]; exact hG.2
    · cases h)
  have HPT := Lib.hid hpt
  have HF := Lib.hid hF
  clear hpt hF hb hG
  go_enter Tryd.func39, Tryd.ntmps39
  go_wp2_with fail
  rw [← hW]
  clear hW
  refine HPT.out.mono ?_
  rintro r w2 ⟨rfl, v2, hb2, he2, hm2⟩
  have c0 : w2.cell? ⟨w.heap.size, 0, none⟩ = some v2 := by rw [Lib.cell_of_heap hb2]; rfl
  have hown : ∀ k, v2.ownBlock = some k → w.heap.size ≤ k := fun k hk => by
    rcases hm2.2 k (.inr hk) with (h | h) | h
    · rw [h]; exact Nat.le_refl _
    · cases h
    · omega
  have hK : Fresh w w2 := HF.out.trans hm2.1 (fun j h1 h2 => by
    rcases h2 with h | h
    · omega
    · cases h)
  have HE := Lib.hid he2
  have HO := Lib.hid hown
  have HK := Lib.hid hK
  clear hb2 he2 hm2 hown hK
  go_wp2
  go_ret
  exact ⟨_, rfl, by simpa using HE.out, HO.out, HK.out⟩

theorem regular_size (s : ByteArray) : (⟨(regular s).toArray⟩ : ByteArray).size = (regular s).length := by simp [ByteArray.size]

set_option maxHeartbeats 1000000 in
set_option maxRecDepth 100000 in
theorem pInline_any (s : ByteArray) (w : World) (hs : s.size ≤ 1048576) (hG : Gl w) :
    Calls Tryd.prog 22 #[.string s] w fun e w' => ∃ v, e = .returned v ∧ Evs w' 84 v (inlF ((regular s).length + 1) false (regular s) []) ∧ (∀ k, v.ownBlock = some k → w.heap.size ≤ k) ∧ Fresh w w' := by
  have hrl := regular_length s
  have hfd := fun W : World => fun hGW => Find_any ⟨(regular s).toArray⟩ W (by rw [regular_size]; omega) hGW
  rw [regular_size, show (⟨(regular s).toArray⟩ : ByteArray).data.toList = regular s from rfl] at hfd
  have hre := Regular_any s w (by omega)
  have HFD := Lib.hid hfd
  have HRE := Lib.hid hre
  have HG := Lib.hid hG
  clear hfd hre hG
  go_enter Tryd.func22, Tryd.ntmps22
  go_wp2_with fail
  refine HRE.out.mono ?_
  rintro r w2 ⟨rfl, hk2⟩
  have HK2 := Lib.hid hk2
  clear hk2
  go_wp2_with fail
  refine (HFD.out _ (HG.out.fresh HK2.out)).mono ?_
  rintro r w3 ⟨v3, rfl, he3, ho3, hk3⟩
  have HE := Lib.hid he3
  have HO := Lib.hid (fun k hk => Nat.le_trans HK2.out.size (ho3 k hk) : ∀ k, v3.ownBlock = some k → w.heap.size ≤ k)
  have HK := Lib.hid (HK2.out.tr hk3)
  clear he3 ho3 hk3
  go_wp2
  go_ret
  exact ⟨_, rfl, HE.out, HO.out, HK.out⟩

set_option maxHeartbeats 1000000 in
set_option maxRecDepth 100000 in
theorem plInline_any (s : ByteArray) (w : World) (hs : s.size ≤ 1048576) (hG : Gl w) :
    Calls Tryd.prog 11 #[.string s] w fun e w' => ∃ v, e = .returned v ∧ Evs w' 62 v (inlF ((regular s).length + 1) false (regular s) []) ∧ Fresh w w' := by
  have hrl := regular_length s
  have hil := inlF_length ((regular s).length + 1) false (regular s) []
  rw [flushE_nil] at hil
  simp only [List.length_nil, Nat.add_zero] at hil
  have hfd := pInline_any s w hs hG
  generalize inlF ((regular s).length + 1) false (regular s) [] = I at *
  have hev := fun v W h => events_any v I W h (by omega)
  have HFD := Lib.hid hfd
  have HEV := Lib.hid hev
  clear hfd hev hG
  go_enter Tryd.func11, Tryd.ntmps11
  go_wp2_with fail
  refine HFD.out.mono ?_
  rintro r w2 ⟨v2, rfl, he2, ho2, hk2⟩
  have hee := HEV.out v2 w2 he2
  have HEE := Lib.hid hee
  have HO := Lib.hid ho2
  have HK2 := Lib.hid hk2
  clear hee he2 ho2 hk2
  go_wp2_with fail
  refine HEE.out.mono ?_
  rintro r w3 ⟨v3, rfl, he3, ho3, hk3⟩
  have HE := Lib.hid he3
  have HK := Lib.hid (HK2.out.trans hk3 (fun j h1 h2 => by have := HO.out j h2; omega) : Fresh w w3)
  clear he3 ho3 hk3
  go_wp2
  go_ret
  exact ⟨_, rfl, HE.out, HK.out⟩

set_option maxHeartbeats 2000000 in
set_option maxRecDepth 100000 in
theorem Inlined_any (s : ByteArray) (w : World) (hG : Gl w) (hm : s.size ≤ maxLen) :
    Calls Tryd.prog 5 #[.string s] w fun e w' => e = .returned (.bool true) ∧ Fresh w w' := by
  unfold maxLen at hm
  by_cases hs : s.size ≤ 1048576
  · have hrl := regular_length s
    have hil := inlF_length ((regular s).length + 1) false (regular s) []
    rw [flushE_nil] at hil
    simp only [List.length_nil, Nat.add_zero] at hil
    have hpl := plInline_any s w hs hG
    have hre := fun W : World => refRegular_any s W (by omega)
    have hri := fun W : World => Inline_ok ((regular s).length + 1) ⟨(regular s).toArray⟩ false W (by rw [regular_size]; omega) (by rw [regular_size]; omega)
    rw [show (⟨(regular s).toArray⟩ : ByteArray).data.toList = regular s from rfl] at hri
    generalize inlF ((regular s).length + 1) false (regular s) [] = I at *
    have hsa := fun v u W h h2 => same_any v u I W h h2 (by omega)
    have HPL := Lib.hid hpl
    have HRE := Lib.hid hre
    have HRI := Lib.hid hri
    have HSA := Lib.hid hsa
    clear hpl hre hri hsa hG
    go_enter Tryd.func5, Tryd.ntmps5
    go_wp2_with fail
    refine HPL.out.mono ?_
    rintro r w2 ⟨v2, rfl, he2, hk2⟩
    have HE2 := Lib.hid he2
    have HK2 := Lib.hid hk2
    clear he2 hk2
    go_wp2_with fail
    refine (HRE.out _).mono ?_
    rintro r w3 ⟨rfl, hk3⟩
    have HK3 := Lib.hid hk3
    clear hk3
    go_wp2_with fail
    refine (HRI.out _).mono ?_
    rintro r w4 ⟨v4, rfl, he4, ho4, hk4⟩
    have hss := HSA.out v2 v4 w4 ((HE2.out.fresh HK3.out).fresh hk4) he4
    have HSS := Lib.hid hss
    have HK4 := Lib.hid hk4
    clear hss he4 ho4 hk4
    go_wp2_with fail
    refine HSS.out.mono ?_
    rintro r w5 ⟨rfl, hk5⟩
    have HK := Lib.hid (((HK2.out.tr HK3.out).tr HK4.out).tr hk5)
    clear hk5
    go_wp2
    go_ret
    exact ⟨rfl, HK.out⟩
  · have hlt : (1048576 : Int) < (s.size : Int) := by omega
    clear hG hs
    go_enter Tryd.func5, Tryd.ntmps5
    go_wp2
    go_ret
    exact ⟨rfl, Keeps.refl _ _⟩
end Go.Proofs.YtbioecifiogffaaDoor
