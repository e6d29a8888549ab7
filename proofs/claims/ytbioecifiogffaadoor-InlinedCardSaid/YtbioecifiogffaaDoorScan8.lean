/- inline.scanner: link, where there is one. Condition: no more than 10^9 events, no more than 2^24 bytes. -/
import Derived.Test.YtbioecifiogffaaDoorScan7
namespace Go.Proofs.YtbioecifiogffaaDoor
open Go.RowKit

set_option maxHeartbeats 4000000 in
set_option maxRecDepth 100000 in
theorem link_yes (n : Nat) (IH : PartOK n) (R : ByteArray) (t : List UInt8) (hRl : R.data.toList = t) (hRs : R.size ≤ 16777216) (w : World) (hG : Gl w) (C Bo : Nat) (v vo : Value) (s : ByteArray) (i : Nat) (ins : Bool) (p : List UInt8) (L : List Ev) (h : Scan w C Bo v vo s i ins p L) (hH : Hi (ScanD C Bo v vo))
    (hp : p.length ≤ 16777216) (hts : t.length + i + 1 = s.size) (hs : s.size ≤ 16777216) (hn : t.length ≤ n) (hL : L.length + (flushE p).length + 1 + 2 * t.length ≤ 1000000000)
    (k : Nat) (hk : fnd 93 t = some k) (h1 : (fnd 91 (t.take k)).isSome = false) (r : List UInt8) (hd : t.drop (k + 1) = 40 :: r) (m : Nat) (hj : Lib.indexAny r [41, 32, 9, 10, 40] = (m : Int)) (hm : m < r.length) (hxm : r[m]? = some 41) :
    Calls Tryd.prog 82 #[.pointer (some ⟨C, 0, none⟩), .string R] w fun e w' => e = .returned (.bool true) ∧ ∃ v' vo', Scan w' C Bo v' vo' s (i + (k + m + 3) + 1) ins [] (L ++ flushE p ++ ⟨7, false, 0, (t.drop (k + 2)).take m⟩ :: (inlF n ins (t.take k) [] ++ [endE ⟨7, false, 0, (t.drop (k + 2)).take m⟩])) ∧ Mv (ScanD C Bo v vo) (ScanD C Bo v' vo') w w' := by
  have hct := cut_any (c := 93) R hRl hRs (t.take k) (t.drop (k + 1)) true (cut_some hk) w hG
  have hkl := fnd_lt hk
  obtain ⟨A, hA, hAl, hAs⟩ := ba_of (t.take k)
  obtain ⟨B, hB, hBl, hBs⟩ := ba_of (t.drop (k + 1))
  rw [hA, hB] at hct
  have HCT := Lib.hid hct
  clear hct hA hB
  have hAk : A.size = k := by rw [hAs, List.length_take]; omega
  have hB0 : 0 < B.size := by rw [hBs, hd]; simp
  have hrl : r.length + 1 = B.size := by rw [hBs, hd]; simp
  have hBt : B.size + k + 1 = t.length := by rw [hBs, List.length_drop]; omega
  have hBl2 : (B.extract 1 B.size).data.toList = r := by rw [rest_list, hBl, hd]; rfl
  have hBsz : B.size ≤ 16777216 := by omega
  have hh := has_any A hAl h1
  have hp' := pre_any B hBl (c := 40) (r := true) (by rw [hd, hasPrefix_cons]; rfl)
  have hx := fun W : World => idxAny_any (B.extract 1 B.size) W (by simp; omega)
  rw [hBl2, hj] at hx
  have hm1 : 1 + m < B.size := by omega
  have hBm : B[1 + m]'hm1 = 41 := by
    have h5 : B.data.toList[1 + m]? = some 41 := by rw [hBl, hd, show 1 + m = m + 1 by omega]; simpa using hxm
    rw [List.getElem?_eq_some_iff] at h5
    obtain ⟨_, h6⟩ := h5
    rw [← h6]
    simp [ByteArray.getElem_eq_getElem_data]
  have hw1 : IntKind.i64.wrap (1 + (m : Int)) = 1 + (m : Int) := IntWalk.i64_in _ (by omega)
  have hw2 : (0 : Int) ≤ 1 + (m : Int) := by omega
  have hw3 : (1 + (m : Int)).toNat = 1 + m := by omega
  have hw4 : 1 + (m : Int) ≤ (B.size : Int) := by omega
  have hw5 : (1 : Int) ≤ 1 + (m : Int) := by omega
  have hB1 : (1 : Int) ≤ (B.size : Int) := by omega
  have hdst : (B.extract 1 (1 + m)) = ⟨((t.drop (k + 2)).take m).toArray⟩ := by
    apply ByteArray.ext
    rw [ByteArray.data_extract]
    apply Array.ext'
    rw [Array.toList_extract, List.extract_eq_take_drop, hBl, List.drop_drop]
    rw [show 1 + m - 1 = m by omega]
  have HH := Lib.hid hh
  have HP := Lib.hid hp'
  have HX := Lib.hid hx
  have HIH := Lib.hid IH
  have HG := Lib.hid hG
  have HH2 := Lib.hid hH
  have H := Lib.hid h
  have HAL := Lib.hid hAl
  clear hh hp' hx hk hG hRl h1 hAl hAs hBl hBs hd hj hrl hBl2 hxm IH h hH
  go_enter Tryd.func82, Tryd.ntmps82
  go_wp2_with fail
  refine HCT.out.mono ?_
  rintro e w1 ⟨rfl, hk1⟩
  have HK1 := Lib.hid hk1
  clear hk1
  go_wp2_with fail
  refine (HH.out _).mono ?_
  rintro e w2 ⟨rfl, rfl⟩
  go_wp2_with fail
  refine (HP.out _).mono ?_
  rintro e w3 ⟨rfl, rfl⟩
  go_wp2_with fail
  refine (HX.out _).mono ?_
  rintro e w4 ⟨rfl, hk4⟩
  have hF := HK1.out.tr hk4
  have hs0 := (H.out.fresh hF).cells.2.2.1
  have har := around_any n HIH.out C Bo v vo s i ins p L ⟨7, false, 0, (t.drop (k + 2)).take m⟩ A ins _ (H.out.fresh hF.drew) (HG.out.fresh hF.drew) HH2.out hp (by omega) (by omega) (by omega)
  rw [← hdst] at har
  have HAR := Lib.hid har
  have HF := Lib.hid hF

  clear hF hk4 har hdst
  go_upto_region 7 with fail
  refine wp_region_K 11 (fun W => W.cell? ⟨C, 2, none⟩ = some (.bool ins)) (by kernel_rfl) ?_
  have hHeld : w4.drew.cell? ⟨C, 2, none⟩ = some (.bool ins) := hs0
  refine K_take (i := 0) (v := ?_) rfl (by kernel_rfl) (by kernel_rfl) (by kernel_rfl) (by kernel_rfl) (by kernel_rfl) (fun _ _ _ h => h) (Or.inl ⟨by rfl, ?_⟩) (by assumption) ?_
  rotate_left
  · (intro _ hSw; (try dsimp only at hSw); first | (go_simp; done) | (go_simp; with_reducible rfl))
  try simp only [Act.put, List.setIfInBounds_toArray, List.set_cons_zero, List.set_cons_succ]
  refine K_take (i := 1) (v := ?_) rfl (by kernel_rfl) (by kernel_rfl) (by kernel_rfl) (by kernel_rfl) (by kernel_rfl) (fun _ _ _ h => h) (Or.inl ⟨by rfl, ?_⟩) (by assumption) ?_
  rotate_left
  · (intro _ hSw; (try dsimp only at hSw); first | (go_simp; done) | (go_simp; with_reducible rfl))
  try simp only [Act.put, List.setIfInBounds_toArray, List.set_cons_zero, List.set_cons_succ]
  refine K_take (i := 2) (v := ?_) rfl (by kernel_rfl) (by kernel_rfl) (by kernel_rfl) (by kernel_rfl) (by kernel_rfl) (fun _ _ _ h => h) (Or.inl ⟨by rfl, ?_⟩) (by assumption) ?_
  rotate_left
  · (intro _ hSw; (try dsimp only at hSw); first | (go_simp; done) | (go_simp; with_reducible rfl))
  try simp only [Act.put, List.setIfInBounds_toArray, List.set_cons_zero, List.set_cons_succ]
  refine K_take (i := 3) (v := ?_) rfl (by kernel_rfl) (by kernel_rfl) (by kernel_rfl) (by kernel_rfl) (by kernel_rfl) (fun _ _ _ h => h) (Or.inl ⟨by rfl, ?_⟩) (by assumption) ?_
  rotate_left
  · (intro _ hSw; (try dsimp only at hSw); first | (go_simp; done) | (go_simp; with_reducible rfl))
  try simp only [Act.put, List.setIfInBounds_toArray, List.set_cons_zero, List.set_cons_succ]
  refine K_take (i := 4) (v := ?_) rfl (by kernel_rfl) (by kernel_rfl) (by kernel_rfl) (by kernel_rfl) (by kernel_rfl) (fun _ _ _ h => h) (Or.inl ⟨by rfl, ?_⟩) (by assumption) ?_
  rotate_left
  · (intro _ hSw; (try dsimp only at hSw); first | (go_simp; done) | (go_simp; with_reducible rfl))
  try simp only [Act.put, List.setIfInBounds_toArray, List.set_cons_zero, List.set_cons_succ]
  refine K_take (i := 5) (v := ?_) rfl (by kernel_rfl) (by kernel_rfl) (by kernel_rfl) (by kernel_rfl) (by kernel_rfl) (fun _ _ _ h => h) (Or.inl ⟨by rfl, ?_⟩) (by assumption) ?_
  rotate_left
  · (intro _ hSw; (try dsimp only at hSw); first | (go_simp; done) | (go_simp; with_reducible rfl))
  try simp only [Act.put, List.setIfInBounds_toArray, List.set_cons_zero, List.set_cons_succ]
  refine K_take (i := 6) (v := ?_) rfl (by kernel_rfl) (by kernel_rfl) (by kernel_rfl) (by kernel_rfl) (by kernel_rfl) (fun _ _ _ h => h) (Or.inl ⟨by rfl, ?_⟩) (by assumption) ?_
  rotate_left
  · (intro _ hSw; (try dsimp only at hSw); first | (go_simp; done) | (go_simp; with_reducible rfl))
  try simp only [Act.put, List.setIfInBounds_toArray, List.set_cons_zero, List.set_cons_succ]
  refine K_take (i := 7) (v := ?_) rfl (by kernel_rfl) (by kernel_rfl) (by kernel_rfl) (by kernel_rfl) (by kernel_rfl) (fun _ _ _ h => h) (Or.inl ⟨by rfl, ?_⟩) (by assumption) ?_
  rotate_left
  · (intro _ hSw; (try dsimp only at hSw); first | (go_simp; done) | (go_simp; with_reducible rfl))
  try simp only [Act.put, List.setIfInBounds_toArray, List.set_cons_zero, List.set_cons_succ]
  refine K_take (i := 8) (v := ?_) rfl (by kernel_rfl) (by kernel_rfl) (by kernel_rfl) (by kernel_rfl) (by kernel_rfl) (fun _ _ _ h => h) (Or.inl ⟨by rfl, ?_⟩) (by assumption) ?_
  rotate_left
  · (intro _ hSw; (try dsimp only at hSw); first | (go_simp; done) | (go_simp; with_reducible rfl))
  try simp only [Act.put, List.setIfInBounds_toArray, List.set_cons_zero, List.set_cons_succ]
  refine K_take (i := 9) (v := ?_) rfl (by kernel_rfl) (by kernel_rfl) (by kernel_rfl) (by kernel_rfl) (by kernel_rfl) (fun _ _ _ h => h) (Or.inl ⟨by rfl, ?_⟩) (by assumption) ?_
  rotate_left
  · (intro _ hSw; (try dsimp only at hSw); first | (go_simp; done) | (go_simp; with_reducible rfl))
  try simp only [Act.put, List.setIfInBounds_toArray, List.set_cons_zero, List.set_cons_succ]
  refine K_take (i := 10) (v := ?_) rfl (by kernel_rfl) (by kernel_rfl) (by kernel_rfl) (by kernel_rfl) (by kernel_rfl) (fun _ _ _ h => h) (Or.inl ⟨by rfl, ?_⟩) (by assumption) ?_
  rotate_left
  · (intro _ hSw; (try dsimp only at hSw); first | (go_simp; done) | (go_simp; with_reducible rfl))
  try simp only [Act.put, List.setIfInBounds_toArray, List.set_cons_zero, List.set_cons_succ]
  refine K_last (by kernel_rfl) rfl (fun K hK => ?_)
  go_simp
  refine HAR.out.mono ?_
  rintro e w5 ⟨rfl, v5, vo5, hs5, hm5⟩
  refine hK.out _ _ ?_
  clear hK K hHeld
  try simp only [Act.put, List.setIfInBounds_toArray, List.set_cons_zero, List.set_cons_succ]
  refine K_done (by kernel_rfl) ?_ _
  rw [HAL.out] at hs5
  have a1 := hs5.cells.2.1
  have af := hs5.cells.2.2.2.2.2.2.1 1
  have hat := hs5.at (i + (k + m + 4))
  have hmv := ((Mv.fresh HF.out.drew).trans hm5).at (H.out.lt (.inl rfl)) (.int .i64 ((i + (k + m + 4) : Nat) : Int))
  have HAT := Lib.hid hat
  have HMV := Lib.hid hmv
  clear hs5 hm5 hat hmv hs0 hw1 hw2 hw3 hw4 hw5 hB1 hBm
  go_wp2
  go_ret
  exact ⟨rfl, _, _, by rw [show i + (k + m + 3) + 1 = i + (k + m + 4) by omega]; exact HAT.out, HMV.out⟩
end Go.Proofs.YtbioecifiogffaaDoor
