/- inline.scanner: step at a bracket and at a star. Condition: no more than 10^9 events, no more than 2^24 bytes. Written by gen9.py. -/
import Derived.Test.YtbioecifiogffaaDoorScan8
namespace Go.Proofs.YtbioecifiogffaaDoor
open Go.RowKit

theorem hasPrefix_drop {l : List UInt8} (h : ∀ r, l ≠ 40 :: r) : Lib.hasPrefix l [40] = false := by
  cases l with
  | nil => rfl
  | cons b t =>
    rw [hasPrefix_cons]
    refine decide_eq_false (fun e => ?_)
    subst e
    exact h t rfl
theorem link_none (R : ByteArray) (t : List UInt8) (hRl : R.data.toList = t) (hRs : R.size ≤ 16777216) (w : World) (hG : Gl w) (C : Nat) (h : lnk t = none) :
    Calls Tryd.prog 82 #[.pointer (some ⟨C, 0, none⟩), .string R] w (LinkNo w) := by
  unfold lnk at h
  cases hk : fnd 93 t with
  | none => exact link_no0 R t hRl hRs w hG C hk
  | some k =>
    rw [hk] at h
    simp only at h
    cases h1 : (fnd 91 (t.take k)).isSome with
    | true => exact link_no1 R t hRl hRs w hG C k hk h1
    | false =>
      rw [h1] at h
      simp only [Bool.false_eq_true, if_false] at h
      by_cases hd : ∃ r, t.drop (k + 1) = 40 :: r
      · obtain ⟨r, hd⟩ := hd
        rw [hd] at h
        simp only [if_true, Option.map_eq_none_iff] at h
        rcases indexAny_dst r with ⟨-, hj | ⟨m, hj, hm, hx⟩⟩ | ⟨m, hm, -, -⟩
        · exact link_no3 R t hRl hRs w hG C k hk h1 r hd hj
        · exact link_no4 R t hRl hRs w hG C k hk h1 r hd m hj hm r[m] (List.getElem?_eq_getElem hm) (fun e => hx (by rw [List.getElem?_eq_getElem hm, e]))
        · rw [hm] at h; cases h
      · exact link_no2 R t hRl hRs w hG C k hk h1 (hasPrefix_drop (fun r e => hd ⟨r, e⟩))
theorem lnk_cases {t : List UInt8} {k m : Nat} (h : lnk t = some (k, m)) : fnd 93 t = some k ∧ (fnd 91 (t.take k)).isSome = false ∧ ∃ r, t.drop (k + 1) = 40 :: r ∧ Lib.indexAny r [41, 32, 9, 10, 40] = (m : Int) ∧ m < r.length ∧ r[m]? = some 41 := by
  unfold lnk at h
  cases hk : fnd 93 t with
  | none => rw [hk] at h; cases h
  | some k' =>
    rw [hk] at h
    simp only at h
    cases h1 : (fnd 91 (t.take k')).isSome with
    | true => rw [h1] at h; simp at h
    | false =>
      rw [h1] at h
      simp only [Bool.false_eq_true, if_false] at h
      cases hd : t.drop (k' + 1) with
      | nil => rw [hd] at h; cases h
      | cons c r =>
        rw [hd] at h
        by_cases hc : c = 40
        · subst hc
          simp only [if_true, Option.map_eq_some_iff, Prod.mk.injEq] at h
          obtain ⟨m', hm, rfl, rfl⟩ := h
          refine ⟨rfl, h1, r, hd, ?_⟩
          rcases indexAny_dst r with ⟨hn, _⟩ | ⟨m, hm2, hj, hx⟩
          · rw [hn] at hm; cases hm
          · rw [hm] at hm2
            cases hm2
            exact ⟨hj, dst_lt hm, hx⟩
        · simp [hc] at h

set_option maxHeartbeats 4000000 in
set_option maxRecDepth 100000 in
theorem step_link_no (n C Bo : Nat) (v vo : Value) (s : ByteArray) (i : Nat) (ins : Bool) (p : List UInt8) (L : List Ev) (w : World) (h : Scan w C Bo v vo s i ins p L) (hs : s.size ≤ 16777216) (hp : p.length ≤ 16777216)
    (hL : L.length ≤ 1000000000) (t : List UInt8) (hi : i < s.size) (ht : s.data.toList.drop (i + 1) = t) (hG : Gl w) (hl : lnk t = none) :
    Calls Tryd.prog 69 #[.pointer (some ⟨C, 0, none⟩), .int .u8 91] w (StepPost n C Bo v vo s i ins p L w (.ch 91, 0)) := by
  obtain ⟨c0, c1, c2, c3, c4, o0, hfC, hfB⟩ := h.cells
  have w1 : IntKind.i64.wrap ((i : Int) + 1) = (i : Int) + 1 := IntWalk.i64_in _ (by omega)
  have w2 : (0 : Int) ≤ (i : Int) + 1 := by omega
  have w3 : ((i : Int) + 1).toNat = i + 1 := by omega
  have w4 : (i : Int) + 1 ≤ (s.size : Int) := by omega
  have H := Lib.hid h
  have HT := Lib.hid ht
  clear h ht hfC hfB
  go_enter Tryd.func69, Tryd.ntmps69
  go_wp2_with fail
  go_quiet (fail)
  obtain ⟨R, hR⟩ : ∃ R, s.extract (i + 1) s.size = R := ⟨_, rfl⟩
  rw [hR]
  have hRl : R.data.toList = t := by rw [← hR, rest_list, HT.out]
  have hRs : R.size ≤ 16777216 := by rw [← hR]; simp; omega
  clear hR w1 w2 w3 w4
  have hF : Fresh w (w.drewN nq) := (Keeps.refl _ w).drewN nq
  have hlk := link_none R t hRl hRs (w.drewN nq) (hG.fresh hF) C hl
  have HLK := Lib.hid hlk
  have HF := Lib.hid hF
  clear hlk hF hRl hl hG
  go_wp2_with fail
  refine HLK.out.mono ?_
  rintro e w2 ⟨rfl, hk2⟩
  have HK2 := Lib.hid hk2
  clear hk2
  go_wp2
  go_ret
  exact ⟨rfl, HF.out.tr HK2.out⟩

set_option maxHeartbeats 4000000 in
set_option maxRecDepth 100000 in
theorem step_link (n C Bo : Nat) (v vo : Value) (s : ByteArray) (i : Nat) (ins : Bool) (p : List UInt8) (L : List Ev) (w : World) (h : Scan w C Bo v vo s i ins p L) (hs : s.size ≤ 16777216) (hp : p.length ≤ 16777216)
    (hL : L.length ≤ 1000000000) (t : List UInt8) (hi : i < s.size) (ht : s.data.toList.drop (i + 1) = t) (hH : Hi (ScanD C Bo v vo)) (IH : PartOK n) (hn : t.length ≤ n) (hLL : L.length + (flushE p).length + 1 + 2 * t.length ≤ 1000000000) (hG : Gl w) (k m : Nat) (hl : lnk t = some (k, m)) :
    Calls Tryd.prog 69 #[.pointer (some ⟨C, 0, none⟩), .int .u8 91] w (StepPost n C Bo v vo s i ins p L w (.sub ⟨7, false, 0, (t.drop (k + 2)).take m⟩ (t.take k) ins, k + m + 3)) := by
  obtain ⟨c0, c1, c2, c3, c4, o0, hfC, hfB⟩ := h.cells
  have w1 : IntKind.i64.wrap ((i : Int) + 1) = (i : Int) + 1 := IntWalk.i64_in _ (by omega)
  have w2 : (0 : Int) ≤ (i : Int) + 1 := by omega
  have w3 : ((i : Int) + 1).toNat = i + 1 := by omega
  have w4 : (i : Int) + 1 ≤ (s.size : Int) := by omega
  have H := Lib.hid h
  have HT := Lib.hid ht
  clear h ht hfC hfB
  go_enter Tryd.func69, Tryd.ntmps69
  go_wp2_with fail
  go_quiet (fail)
  obtain ⟨R, hR⟩ : ∃ R, s.extract (i + 1) s.size = R := ⟨_, rfl⟩
  rw [hR]
  have hRl : R.data.toList = t := by rw [← hR, rest_list, HT.out]
  have hRs : R.size ≤ 16777216 := by rw [← hR]; simp; omega
  clear hR w1 w2 w3 w4
  have hF : Fresh w (w.drewN nq) := (Keeps.refl _ w).drewN nq
  have hts : t.length + i + 1 = s.size := by
    have h5 : (s.data.toList.drop (i + 1)).length = t.length := by rw [HT.out]
    simp at h5
    omega
  obtain ⟨l1, l2, r, l3, l4, l5, l6⟩ := lnk_cases hl
  have hlk := link_yes n IH R t hRl hRs (w.drewN nq) (hG.fresh hF) C Bo v vo s i ins p L (H.out.fresh hF) hH hp hts hs hn hLL k l1 l2 r l3 m l4 l5 l6
  have HLK := Lib.hid hlk
  have HF := Lib.hid hF
  clear hlk hF hRl hl hG IH hH l1 l2 l3 l4 l5 l6
  go_wp2_with fail
  refine HLK.out.mono ?_
  rintro e w2 ⟨rfl, v2, vo2, hs2, hm2⟩
  have HS2 := Lib.hid hs2
  have HM2 := Lib.hid hm2
  clear hs2 hm2
  go_wp2
  go_ret
  exact ⟨rfl, _, _, HS2.out, (Mv.fresh HF.out).trans HM2.out⟩

set_option maxHeartbeats 4000000 in
set_option maxRecDepth 100000 in
theorem step_star_in (n C Bo : Nat) (v vo : Value) (s : ByteArray) (i : Nat) (ins : Bool) (p : List UInt8) (L : List Ev) (w : World) (h : Scan w C Bo v vo s i ins p L) (hs : s.size ≤ 16777216) (hp : p.length ≤ 16777216)
    (hL : L.length ≤ 1000000000) (t : List UInt8) (hi : i < s.size) (ht : s.data.toList.drop (i + 1) = t) (hins : ins = true) :
    Calls Tryd.prog 69 #[.pointer (some ⟨C, 0, none⟩), .int .u8 42] w (StepPost n C Bo v vo s i ins p L w (.ch 42, 0)) := by
  obtain ⟨c0, c1, c2, c3, c4, o0, hfC, hfB⟩ := h.cells
  have w1 : IntKind.i64.wrap ((i : Int) + 1) = (i : Int) + 1 := IntWalk.i64_in _ (by omega)
  have w2 : (0 : Int) ≤ (i : Int) + 1 := by omega
  have w3 : ((i : Int) + 1).toNat = i + 1 := by omega
  have w4 : (i : Int) + 1 ≤ (s.size : Int) := by omega
  have H := Lib.hid h
  have HT := Lib.hid ht
  clear h ht hfC hfB
  go_enter Tryd.func69, Tryd.ntmps69
  go_wp2_with fail
  go_quiet (fail)
  obtain ⟨R, hR⟩ : ∃ R, s.extract (i + 1) s.size = R := ⟨_, rfl⟩
  rw [hR]
  have hRl : R.data.toList = t := by rw [← hR, rest_list, HT.out]
  have hRs : R.size ≤ 16777216 := by rw [← hR]; simp; omega
  clear hR w1 w2 w3 w4
  have hF : Fresh w (w.drewN nq) := (Keeps.refl _ w).drewN nq
  subst hins
  have hst := star_any R (w.drewN nq) (by omega)
  generalize plc 0 (str R.data.toList) = J at hst
  have HST := Lib.hid hst
  have HF := Lib.hid hF
  clear hst hF hRl
  have HC2 := Lib.hid c2
  go_wp2_with fail
  refine HST.out.mono ?_
  rintro e w2 ⟨rfl, hk2⟩
  have d2 := hk2.cell_some (HF.out.cell_some HC2.out (fun h => h)) (fun h => h)
  have HK2 := Lib.hid hk2
  clear hk2
  go_wp2
  go_ret
  exact ⟨rfl, HF.out.tr HK2.out⟩

set_option maxHeartbeats 4000000 in
set_option maxRecDepth 100000 in
theorem step_star_no (n C Bo : Nat) (v vo : Value) (s : ByteArray) (i : Nat) (ins : Bool) (p : List UInt8) (L : List Ev) (w : World) (h : Scan w C Bo v vo s i ins p L) (hs : s.size ≤ 16777216) (hp : p.length ≤ 16777216)
    (hL : L.length ≤ 1000000000) (t : List UInt8) (hi : i < s.size) (ht : s.data.toList.drop (i + 1) = t) (hins : ins = false) (hst0 : str t = none) :
    Calls Tryd.prog 69 #[.pointer (some ⟨C, 0, none⟩), .int .u8 42] w (StepPost n C Bo v vo s i ins p L w (.ch 42, 0)) := by
  obtain ⟨c0, c1, c2, c3, c4, o0, hfC, hfB⟩ := h.cells
  have w1 : IntKind.i64.wrap ((i : Int) + 1) = (i : Int) + 1 := IntWalk.i64_in _ (by omega)
  have w2 : (0 : Int) ≤ (i : Int) + 1 := by omega
  have w3 : ((i : Int) + 1).toNat = i + 1 := by omega
  have w4 : (i : Int) + 1 ≤ (s.size : Int) := by omega
  have H := Lib.hid h
  have HT := Lib.hid ht
  clear h ht hfC hfB
  go_enter Tryd.func69, Tryd.ntmps69
  go_wp2_with fail
  go_quiet (fail)
  obtain ⟨R, hR⟩ : ∃ R, s.extract (i + 1) s.size = R := ⟨_, rfl⟩
  rw [hR]
  have hRl : R.data.toList = t := by rw [← hR, rest_list, HT.out]
  have hRs : R.size ≤ 16777216 := by rw [← hR]; simp; omega
  clear hR w1 w2 w3 w4
  have hF : Fresh w (w.drewN nq) := (Keeps.refl _ w).drewN nq
  subst hins
  have hst := star_any R (w.drewN nq) (by omega)
  rw [hRl, hst0, show plc 0 none = -1 from rfl] at hst
  have HST := Lib.hid hst
  have HF := Lib.hid hF
  clear hst hF hRl hst0
  have HC2 := Lib.hid c2
  go_wp2_with fail
  refine HST.out.mono ?_
  rintro e w2 ⟨rfl, hk2⟩
  have d2 := hk2.cell_some (HF.out.cell_some HC2.out (fun h => h)) (fun h => h)
  have HK2 := Lib.hid hk2
  clear hk2
  go_wp2
  go_ret
  exact ⟨rfl, HF.out.tr HK2.out⟩

set_option maxHeartbeats 4000000 in
set_option maxRecDepth 100000 in
theorem step_star (n C Bo : Nat) (v vo : Value) (s : ByteArray) (i : Nat) (ins : Bool) (p : List UInt8) (L : List Ev) (w : World) (h : Scan w C Bo v vo s i ins p L) (hs : s.size ≤ 16777216) (hp : p.length ≤ 16777216)
    (hL : L.length ≤ 1000000000) (t : List UInt8) (hi : i < s.size) (ht : s.data.toList.drop (i + 1) = t) (hG : Gl w) (hH : Hi (ScanD C Bo v vo)) (IH : PartOK n) (hn : t.length ≤ n) (hLL : L.length + (flushE p).length + 1 + 2 * t.length ≤ 1000000000) (hins : ins = false) (m : Nat) (hst0 : str t = some m) :
    Calls Tryd.prog 69 #[.pointer (some ⟨C, 0, none⟩), .int .u8 42] w (StepPost n C Bo v vo s i ins p L w (.sub ⟨6, false, 0, []⟩ (t.take m) true, m + 1)) := by
  obtain ⟨c0, c1, c2, c3, c4, o0, hfC, hfB⟩ := h.cells
  have w1 : IntKind.i64.wrap ((i : Int) + 1) = (i : Int) + 1 := IntWalk.i64_in _ (by omega)
  have w2 : (0 : Int) ≤ (i : Int) + 1 := by omega
  have w3 : ((i : Int) + 1).toNat = i + 1 := by omega
  have w4 : (i : Int) + 1 ≤ (s.size : Int) := by omega
  have H := Lib.hid h
  have HT := Lib.hid ht
  clear h ht hfC hfB
  go_enter Tryd.func69, Tryd.ntmps69
  go_wp2_with fail
  go_quiet (fail)
  obtain ⟨R, hR⟩ : ∃ R, s.extract (i + 1) s.size = R := ⟨_, rfl⟩
  rw [hR]
  have hRl : R.data.toList = t := by rw [← hR, rest_list, HT.out]
  have hRs : R.size ≤ 16777216 := by rw [← hR]; simp; omega
  clear hR w1 w2 w3 w4
  have hF : Fresh w (w.drewN nq) := (Keeps.refl _ w).drewN nq
  subst hins
  have hts : t.length + i + 1 = s.size := by
    have h5 : (s.data.toList.drop (i + 1)).length = t.length := by rw [HT.out]
    simp at h5
    omega
  have hml := str_lt hst0
  have hst := star_any R (w.drewN nq) (by omega)
  rw [hRl, hst0, show plc 0 (some m) = ((m : Nat) : Int) from by simp [plc]] at hst
  have htl : t.length = R.size := by rw [← hRl]; simp
  have hmr : (m : Int) ≤ (R.size : Int) := by omega
  have hsub : R.extract 0 m = ⟨(t.take m).toArray⟩ := by
    apply ByteArray.ext
    rw [ByteArray.data_extract]
    apply Array.ext'
    rw [Array.toList_extract, List.extract_eq_take_drop, hRl]
    simp
  obtain ⟨A, hA, hAl, hAs⟩ := ba_of (t.take m)
  rw [hA] at hsub
  have hAm : A.size ≤ m := by rw [hAs, List.length_take]; omega
  have har := fun W hS hGW => around_any n IH C Bo v vo s i false p L ⟨6, false, 0, []⟩ A true W hS hGW hH hp (by omega) (by omega) (by omega)
  rw [hAl] at har
  have HAR : Hid (∀ W : World, Scan W C Bo v vo s i false p L → Gl W → Calls Tryd.prog 84 #[.pointer (some ⟨C, 0, none⟩), .agg #[.int .i64 6, .bool false, .int .i64 0, .string ⟨#[]⟩], .string A, .bool true] W fun r w' => r = .returned (.tuple #[]) ∧ ∃ v' vo', Scan w' C Bo v' vo' s i false [] (L ++ flushE p ++ ⟨6, false, 0, []⟩ :: (inlF n true (t.take m) [] ++ [endE ⟨6, false, 0, []⟩])) ∧ Mv (ScanD C Bo v vo) (ScanD C Bo v' vo') W w') := Lib.hid har
  have HST := Lib.hid hst
  have HF := Lib.hid hF
  have HG := Lib.hid hG
  have hslice : (R.extract 0 m) = A := hsub
  clear hst hF hRl hst0 har hA hAl hAs hsub htl IH hAm hG hH
  have HC2 := Lib.hid c2
  go_wp2_with fail
  refine HST.out.mono ?_
  rintro e w2 ⟨rfl, hk2⟩
  have d2 := hk2.cell_some (HF.out.cell_some HC2.out (fun h => h)) (fun h => h)
  have hF2 := HF.out.tr hk2
  have hS2 := H.out.fresh hF2
  have har2 := HAR.out _ hS2 (HG.out.fresh hF2)
  have HAR2 := Lib.hid har2
  have HF2 := Lib.hid hF2
  clear hk2 hF2 hS2 har2
  go_wp2_with fail
  refine HAR2.out.mono ?_
  rintro r w3 ⟨rfl, v3, vo3, hs3, hm3⟩
  have a1 := hs3.cells.2.1
  have af := hs3.cells.2.2.2.2.2.2.1 1
  have hat := hs3.at (i + (m + 2))
  have hmv := ((Mv.fresh HF2.out).trans hm3).at (H.out.lt (.inl rfl)) (.int .i64 ((i + (m + 2) : Nat) : Int))
  have HAT := Lib.hid hat
  have HMV := Lib.hid hmv
  clear hs3 hm3 hat hmv c0 c1 c2 c3 c4 o0
  go_wp2
  go_ret
  exact ⟨rfl, _, _, by rw [show i + (m + 1) + 1 = i + (m + 2) by omega]; exact HAT.out, HMV.out⟩
end Go.Proofs.YtbioecifiogffaaDoor
