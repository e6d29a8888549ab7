/- inline.scanner: step, the ways that tell one event or none. Condition: no more than 10^9 events, no more than 2^24 bytes. Written by gen6.py. -/
import Derived.Test.YtbioecifiogffaaDoorScan5
namespace Go.Proofs.YtbioecifiogffaaDoor
open Go.RowKit

theorem esc_any {l : List UInt8} {r : Bool} (R : ByteArray) (hR : R.data.toList = l) (h : esc l = r) : ∀ W : World, Calls Tryd.prog 77 #[.string R] W fun e w' => e = .returned (.bool r) ∧ Fresh W w' := fun W => by
  have := escaped_any R W
  rw [hR, h] at this
  exact this
theorem nlp_any {l : List UInt8} {r : Bool} (R : ByteArray) (hR : R.data.toList = l) (h : Lib.hasPrefix l [10] = r) : ∀ W : World, Calls Tryd.prog 78 #[.string R, .string ⟨#[10]⟩] W fun e w' => e = .returned (.bool r) ∧ w' = W := fun W => by
  have := Tryd.strings_HasPrefix R ⟨#[10]⟩ W
  rw [hR, show (⟨#[10]⟩ : ByteArray).data.toList = [10] from rfl, h] at this
  exact this

theorem cut_any {l : List UInt8} {c : UInt8} (R : ByteArray) (hR : R.data.toList = l) (hs : R.size ≤ 16777216) (a b : List UInt8) (ok : Bool) (h : Lib.cut l [c] = (a, b, ok)) (W : World) (hG : Gl W) : Calls Tryd.prog 80 #[.string R, .string ⟨#[c]⟩] W fun e w' => e = .returned (.tuple #[.string ⟨a.toArray⟩, .string ⟨b.toArray⟩, .bool ok]) ∧ Fresh W w' := by
  obtain ⟨⟨m, hm⟩, -⟩ := hG
  refine (Tryd.strings_Cut R ⟨#[c]⟩ m W (by omega) hm).mono ?_
  rintro e w' ⟨rfl, n, rfl⟩
  rw [hR, show (⟨#[c]⟩ : ByteArray).data.toList = [c] from rfl, h]
  exact ⟨rfl, (Keeps.refl _ _).drewN n⟩
theorem spaces_any (R : ByteArray) (hs : R.size ≤ 16777216) (W : World) (hG : Gl W) : Calls Tryd.prog 81 #[.string R, .string ⟨#[10]⟩, .string ⟨#[32]⟩] W fun e w' => e = .returned (.string ⟨(spc R.data.toList).toArray⟩) ∧ Fresh W w' := by
  obtain ⟨⟨m, hm⟩, -⟩ := hG
  have hc := Lib.countB_le ⟨#[10]⟩ (by decide) R.size R (Nat.le_refl _)
  refine (Tryd.strings_ReplaceAll R ⟨#[10]⟩ ⟨#[32]⟩ m W (by omega) hm (by decide) ?_).mono ?_
  · have : (⟨#[32]⟩ : ByteArray).size = 1 := rfl
    rw [this]
    omega
  · rintro e w' ⟨rfl, hb⟩
    rw [show (⟨#[10]⟩ : ByteArray).data.toList = [10] from rfl, show (⟨#[32]⟩ : ByteArray).data.toList = [32] from rfl, replaceAll_spc]
    exact ⟨rfl, Fresh.of hb⟩

set_option maxHeartbeats 4000000 in
set_option maxRecDepth 100000 in
theorem step_hard (n C Bo : Nat) (v vo : Value) (s : ByteArray) (i : Nat) (ins : Bool) (p : List UInt8) (L : List Ev) (w : World) (h : Scan w C Bo v vo s i ins p L) (hs : s.size ≤ 16777216) (hp : p.length ≤ 16777216)
    (hL : L.length ≤ 1000000000) (t : List UInt8) (hi : i < s.size) (ht : s.data.toList.drop (i + 1) = t) (t' : List UInt8) (ht2 : t = 10 :: t') :
    Calls Tryd.prog 69 #[.pointer (some ⟨C, 0, none⟩), .int .u8 92] w (StepPost n C Bo v vo s i ins p L w (.one ⟨11, false, 0, []⟩, 1)) := by
  obtain ⟨c0, c1, c2, c3, c4, o0, hfC, hfB⟩ := h.cells
  have w1 : IntKind.i64.wrap ((i : Int) + 1) = (i : Int) + 1 := IntWalk.i64_in _ (by omega)
  have w2 : (0 : Int) ≤ (i : Int) + 1 := by omega
  have w3 : ((i : Int) + 1).toNat = i + 1 := by omega
  have w4 : (i : Int) + 1 ≤ (s.size : Int) := by omega
  have H := Lib.hid h
  have HT := Lib.hid ht
  clear h ht hfC hfB
  go_enter Tryd.func69, Tryd.ntmps69
  go_wp2_with fail
  go_quiet (fail)
  obtain ⟨R, hR⟩ : ∃ R, s.extract (i + 1) s.size = R := ⟨_, rfl⟩
  rw [hR]
  have hRl : R.data.toList = t := by rw [← hR, rest_list, HT.out]
  have hRs : R.size ≤ 16777216 := by rw [← hR]; simp; omega
  clear hR w1 w2 w3 w4
  have hF : Fresh w (w.drewN nq) := (Keeps.refl _ w).drewN nq
  subst ht2
  have hes := esc_any R hRl (r := false) (show sgn 10 = false by decide)
  have hpf := nlp_any R hRl (r := true) (by rw [hasPrefix_cons]; rfl)
  have HES := Lib.hid hes
  have HPF := Lib.hid hpf
  clear hes hpf hRl
  go_wp2_with fail
  refine (HES.out _).mono ?_
  rintro e w2 ⟨rfl, hk2⟩
  have hF2 := hF.tr hk2
  clear hk2
  go_wp2_with fail
  refine (HPF.out _).mono ?_
  rintro e w2' ⟨rfl, rfl⟩
  have hS2 := H.out.fresh hF2
  have htl := tell_any C Bo v vo s i ins p L ⟨11, false, 0, []⟩ _ hS2 (by omega) (by omega)
  have HF2 := Lib.hid hF2
  have HTL : Hid (Calls Tryd.prog 79 #[.pointer (some ⟨C, 0, none⟩), .agg #[.int .i64 11, .bool false, .int .i64 0, .string ⟨#[]⟩]] w2' fun r w' => r = .returned (.tuple #[]) ∧ ∃ v' vo', Scan w' C Bo v' vo' s i ins [] (L ++ flushE p ++ [⟨11, false, 0, []⟩]) ∧ Mv (ScanD C Bo v vo) (ScanD C Bo v' vo') w2' w') := Lib.hid htl
  clear hS2 htl hF2
  go_wp2_with fail
  refine HTL.out.mono ?_
  rintro r w3 ⟨rfl, v3, vo3, hs3, hm3⟩
  have a1 := hs3.cells.2.1
  have af := hs3.cells.2.2.2.2.2.2.1 1
  have hat := hs3.at (i + 2)
  have hmv := ((Mv.fresh HF2.out).trans hm3).at (H.out.lt (.inl rfl)) (.int .i64 ((i + 2 : Nat) : Int))
  have HAT := Lib.hid hat
  have HMV := Lib.hid hmv
  clear hs3 hm3 hat hmv c0 c1 c2 c3 c4 o0
  go_wp2
  go_ret
  exact ⟨rfl, _, _, HAT.out, HMV.out⟩

set_option maxHeartbeats 4000000 in
set_option maxRecDepth 100000 in
theorem step_bs (n C Bo : Nat) (v vo : Value) (s : ByteArray) (i : Nat) (ins : Bool) (p : List UInt8) (L : List Ev) (w : World) (h : Scan w C Bo v vo s i ins p L) (hs : s.size ≤ 16777216) (hp : p.length ≤ 16777216)
    (hL : L.length ≤ 1000000000) (t : List UInt8) (hi : i < s.size) (ht : s.data.toList.drop (i + 1) = t) (he : esc t = false) (hpn : Lib.hasPrefix t [10] = false) :
    Calls Tryd.prog 69 #[.pointer (some ⟨C, 0, none⟩), .int .u8 92] w (StepPost n C Bo v vo s i ins p L w (.ch 92, 0)) := by
  obtain ⟨c0, c1, c2, c3, c4, o0, hfC, hfB⟩ := h.cells
  have w1 : IntKind.i64.wrap ((i : Int) + 1) = (i : Int) + 1 := IntWalk.i64_in _ (by omega)
  have w2 : (0 : Int) ≤ (i : Int) + 1 := by omega
  have w3 : ((i : Int) + 1).toNat = i + 1 := by omega
  have w4 : (i : Int) + 1 ≤ (s.size : Int) := by omega
  have H := Lib.hid h
  have HT := Lib.hid ht
  clear h ht hfC hfB
  go_enter Tryd.func69, Tryd.ntmps69
  go_wp2_with fail
  go_quiet (fail)
  obtain ⟨R, hR⟩ : ∃ R, s.extract (i + 1) s.size = R := ⟨_, rfl⟩
  rw [hR]
  have hRl : R.data.toList = t := by rw [← hR, rest_list, HT.out]
  have hRs : R.size ≤ 16777216 := by rw [← hR]; simp; omega
  clear hR w1 w2 w3 w4
  have hF : Fresh w (w.drewN nq) := (Keeps.refl _ w).drewN nq
  have hes := esc_any R hRl he
  have hpf := nlp_any R hRl hpn
  have HES := Lib.hid hes
  have HPF := Lib.hid hpf
  clear hes hpf hRl he hpn
  go_wp2_with fail
  refine (HES.out _).mono ?_
  rintro e w2 ⟨rfl, hk2⟩
  have hF2 := hF.tr hk2
  have HF2 := Lib.hid hF2
  clear hk2 hF2 hF
  go_wp2_with fail
  refine (HPF.out _).mono ?_
  rintro e w2' ⟨rfl, rfl⟩
  go_wp2
  go_ret
  exact ⟨rfl, HF2.out⟩

set_option maxHeartbeats 4000000 in
set_option maxRecDepth 100000 in
theorem step_nl (n C Bo : Nat) (v vo : Value) (s : ByteArray) (i : Nat) (ins : Bool) (p : List UInt8) (L : List Ev) (w : World) (h : Scan w C Bo v vo s i ins p L) (hs : s.size ≤ 16777216) (hp : p.length ≤ 16777216)
    (hL : L.length ≤ 1000000000) (t : List UInt8) (hi : i < s.size) (ht : s.data.toList.drop (i + 1) = t) :
    Calls Tryd.prog 69 #[.pointer (some ⟨C, 0, none⟩), .int .u8 10] w (StepPost n C Bo v vo s i ins p L w (.one ⟨10, false, 0, []⟩, 0)) := by
  obtain ⟨c0, c1, c2, c3, c4, o0, hfC, hfB⟩ := h.cells
  have w1 : IntKind.i64.wrap ((i : Int) + 1) = (i : Int) + 1 := IntWalk.i64_in _ (by omega)
  have w2 : (0 : Int) ≤ (i : Int) + 1 := by omega
  have w3 : ((i : Int) + 1).toNat = i + 1 := by omega
  have w4 : (i : Int) + 1 ≤ (s.size : Int) := by omega
  have H := Lib.hid h
  have HT := Lib.hid ht
  clear h ht hfC hfB
  go_enter Tryd.func69, Tryd.ntmps69
  go_wp2_with fail
  go_quiet (fail)
  obtain ⟨R, hR⟩ : ∃ R, s.extract (i + 1) s.size = R := ⟨_, rfl⟩
  rw [hR]
  have hRl : R.data.toList = t := by rw [← hR, rest_list, HT.out]
  have hRs : R.size ≤ 16777216 := by rw [← hR]; simp; omega
  clear hR w1 w2 w3 w4
  have hF : Fresh w (w.drewN nq) := (Keeps.refl _ w).drewN nq
  have hF2 := hF
  clear hRl
  have hS2 := H.out.fresh hF2
  have htl := tell_any C Bo v vo s i ins p L ⟨10, false, 0, []⟩ _ hS2 (by omega) (by omega)
  have HF2 := Lib.hid hF2
  have HTL : Hid (Calls Tryd.prog 79 #[.pointer (some ⟨C, 0, none⟩), .agg #[.int .i64 10, .bool false, .int .i64 0, .string ⟨#[]⟩]] (w.drewN nq) fun r w' => r = .returned (.tuple #[]) ∧ ∃ v' vo', Scan w' C Bo v' vo' s i ins [] (L ++ flushE p ++ [⟨10, false, 0, []⟩]) ∧ Mv (ScanD C Bo v vo) (ScanD C Bo v' vo') (w.drewN nq) w') := Lib.hid htl
  clear hS2 htl hF2
  go_wp2_with fail
  refine HTL.out.mono ?_
  rintro r w3 ⟨rfl, v3, vo3, hs3, hm3⟩
  have a1 := hs3.cells.2.1
  have af := hs3.cells.2.2.2.2.2.2.1 1
  have hat := hs3.at (i + 1)
  have hmv := ((Mv.fresh HF2.out).trans hm3).at (H.out.lt (.inl rfl)) (.int .i64 ((i + 1 : Nat) : Int))
  have HAT := Lib.hid hat
  have HMV := Lib.hid hmv
  clear hs3 hm3 hat hmv c0 c1 c2 c3 c4 o0
  go_wp2
  go_ret
  exact ⟨rfl, _, _, HAT.out, HMV.out⟩

set_option maxHeartbeats 4000000 in
set_option maxRecDepth 100000 in
theorem step_code (n C Bo : Nat) (v vo : Value) (s : ByteArray) (i : Nat) (ins : Bool) (p : List UInt8) (L : List Ev) (w : World) (h : Scan w C Bo v vo s i ins p L) (hs : s.size ≤ 16777216) (hp : p.length ≤ 16777216)
    (hL : L.length ≤ 1000000000) (t : List UInt8) (hi : i < s.size) (ht : s.data.toList.drop (i + 1) = t) (k : Nat) (hk : fnd 96 t = some k) (hG : Gl w) :
    Calls Tryd.prog 69 #[.pointer (some ⟨C, 0, none⟩), .int .u8 96] w (StepPost n C Bo v vo s i ins p L w (.one ⟨9, false, 0, spc (t.take k)⟩, k + 1)) := by
  obtain ⟨c0, c1, c2, c3, c4, o0, hfC, hfB⟩ := h.cells
  have w1 : IntKind.i64.wrap ((i : Int) + 1) = (i : Int) + 1 := IntWalk.i64_in _ (by omega)
  have w2 : (0 : Int) ≤ (i : Int) + 1 := by omega
  have w3 : ((i : Int) + 1).toNat = i + 1 := by omega
  have w4 : (i : Int) + 1 ≤ (s.size : Int) := by omega
  have H := Lib.hid h
  have HT := Lib.hid ht
  clear h ht hfC hfB
  go_enter Tryd.func69, Tryd.ntmps69
  go_wp2_with fail
  go_quiet (fail)
  obtain ⟨R, hR⟩ : ∃ R, s.extract (i + 1) s.size = R := ⟨_, rfl⟩
  rw [hR]
  have hRl : R.data.toList = t := by rw [← hR, rest_list, HT.out]
  have hRs : R.size ≤ 16777216 := by rw [← hR]; simp; omega
  clear hR w1 w2 w3 w4
  have hF : Fresh w (w.drewN nq) := (Keeps.refl _ w).drewN nq
  have hct := cut_any (c := 96) R hRl hRs (t.take k) (t.drop (k + 1)) true (cut_some hk) (w.drewN nq) (hG.fresh hF)
  have hkl := fnd_lt hk
  have htl : t.length = R.size := by rw [← hRl]; simp
  obtain ⟨A, hA⟩ : ∃ A : ByteArray, ⟨(t.take k).toArray⟩ = A := ⟨_, rfl⟩
  rw [hA] at hct
  have hAl : A.data.toList = t.take k := by rw [← hA]
  have hAs : A.size = k := by have : A.data.toList.length = k := by rw [hAl, List.length_take]; omega
                              simpa using this
  have hki : i + k + 2 ≤ s.size := by
    have : (s.data.toList.drop (i + 1)).length = t.length := by rw [HT.out]
    simp at this
    omega
  have hsp := fun W hG => spaces_any A (by omega) W hG
  rw [hAl] at hsp
  have HCT := Lib.hid hct
  have HSP := Lib.hid hsp
  have HG := Lib.hid hG
  clear hct hsp hA hAl hk hkl htl hG hRl
  go_wp2_with fail
  refine HCT.out.mono ?_
  rintro e w2' ⟨rfl, hk2⟩
  have hF3 := hF.tr hk2
  have HF3 := Lib.hid hF3
  clear hk2 hF3 hF
  go_wp2_with fail
  refine (HSP.out _ (HG.out.fresh HF3.out)).mono ?_
  rintro e w2 ⟨rfl, hk3⟩
  have hF2 := HF3.out.tr hk3
  clear hk3
  have hS2 := H.out.fresh hF2
  have htl := tell_any C Bo v vo s i ins p L ⟨9, false, 0, spc (t.take k)⟩ _ hS2 (by omega) (by omega)
  have HF2 := Lib.hid hF2
  have HTL : Hid (Calls Tryd.prog 79 #[.pointer (some ⟨C, 0, none⟩), .agg #[.int .i64 9, .bool false, .int .i64 0, .string ⟨(spc (t.take k)).toArray⟩]] w2 fun r w' => r = .returned (.tuple #[]) ∧ ∃ v' vo', Scan w' C Bo v' vo' s i ins [] (L ++ flushE p ++ [⟨9, false, 0, spc (t.take k)⟩]) ∧ Mv (ScanD C Bo v vo) (ScanD C Bo v' vo') w2 w') := Lib.hid htl
  clear hS2 htl hF2
  go_wp2_with fail
  refine HTL.out.mono ?_
  rintro r w3 ⟨rfl, v3, vo3, hs3, hm3⟩
  have a1 := hs3.cells.2.1
  have af := hs3.cells.2.2.2.2.2.2.1 1
  have hat := hs3.at (i + (k + 2))
  have hmv := ((Mv.fresh HF2.out).trans hm3).at (H.out.lt (.inl rfl)) (.int .i64 ((i + (k + 2) : Nat) : Int))
  have HAT := Lib.hid hat
  have HMV := Lib.hid hmv
  clear hs3 hm3 hat hmv c0 c1 c2 c3 c4 o0
  go_wp2
  go_ret
  exact ⟨rfl, _, _, HAT.out, HMV.out⟩

set_option maxHeartbeats 4000000 in
set_option maxRecDepth 100000 in
theorem step_code_no (n C Bo : Nat) (v vo : Value) (s : ByteArray) (i : Nat) (ins : Bool) (p : List UInt8) (L : List Ev) (w : World) (h : Scan w C Bo v vo s i ins p L) (hs : s.size ≤ 16777216) (hp : p.length ≤ 16777216)
    (hL : L.length ≤ 1000000000) (t : List UInt8) (hi : i < s.size) (ht : s.data.toList.drop (i + 1) = t) (hk : fnd 96 t = none) (hG : Gl w) :
    Calls Tryd.prog 69 #[.pointer (some ⟨C, 0, none⟩), .int .u8 96] w (StepPost n C Bo v vo s i ins p L w (.ch 96, 0)) := by
  obtain ⟨c0, c1, c2, c3, c4, o0, hfC, hfB⟩ := h.cells
  have w1 : IntKind.i64.wrap ((i : Int) + 1) = (i : Int) + 1 := IntWalk.i64_in _ (by omega)
  have w2 : (0 : Int) ≤ (i : Int) + 1 := by omega
  have w3 : ((i : Int) + 1).toNat = i + 1 := by omega
  have w4 : (i : Int) + 1 ≤ (s.size : Int) := by omega
  have H := Lib.hid h
  have HT := Lib.hid ht
  clear h ht hfC hfB
  go_enter Tryd.func69, Tryd.ntmps69
  go_wp2_with fail
  go_quiet (fail)
  obtain ⟨R, hR⟩ : ∃ R, s.extract (i + 1) s.size = R := ⟨_, rfl⟩
  rw [hR]
  have hRl : R.data.toList = t := by rw [← hR, rest_list, HT.out]
  have hRs : R.size ≤ 16777216 := by rw [← hR]; simp; omega
  clear hR w1 w2 w3 w4
  have hF : Fresh w (w.drewN nq) := (Keeps.refl _ w).drewN nq
  have hct := cut_any (c := 96) R hRl hRs t [] false (cut_none hk) (w.drewN nq) (hG.fresh hF)
  have HCT := Lib.hid hct
  have HF := Lib.hid hF
  clear hct hk hG hRl hF
  go_wp2_with fail
  refine HCT.out.mono ?_
  rintro e w2' ⟨rfl, hk2⟩
  have HK2 := Lib.hid hk2
  clear hk2
  go_wp2
  go_ret
  exact ⟨rfl, HF.out.tr HK2.out⟩

set_option maxHeartbeats 4000000 in
set_option maxRecDepth 100000 in
theorem step_other (n C Bo : Nat) (v vo : Value) (s : ByteArray) (i : Nat) (ins : Bool) (p : List UInt8) (L : List Ev) (w : World) (h : Scan w C Bo v vo s i ins p L) (hs : s.size ≤ 16777216) (hp : p.length ≤ 16777216)
    (hL : L.length ≤ 1000000000) (t : List UInt8) (hi : i < s.size) (ht : s.data.toList.drop (i + 1) = t) (b : UInt8) (b1 : b ≠ 92) (b2 : b ≠ 10) (b3 : b ≠ 96) (b4 : b ≠ 91) (b5 : b ≠ 42) :
    Calls Tryd.prog 69 #[.pointer (some ⟨C, 0, none⟩), .int .u8 b.toNat] w (StepPost n C Bo v vo s i ins p L w (.ch b, 0)) := by
  obtain ⟨c0, c1, c2, c3, c4, o0, hfC, hfB⟩ := h.cells
  have w1 : IntKind.i64.wrap ((i : Int) + 1) = (i : Int) + 1 := IntWalk.i64_in _ (by omega)
  have w2 : (0 : Int) ≤ (i : Int) + 1 := by omega
  have w3 : ((i : Int) + 1).toNat = i + 1 := by omega
  have w4 : (i : Int) + 1 ≤ (s.size : Int) := by omega
  have H := Lib.hid h
  have HT := Lib.hid ht
  clear h ht hfC hfB
  have q1 : (((b).toNat : Int) == 92) = false := (u8_beq b 92).trans (decide_eq_false b1)
  have q2 : (((b).toNat : Int) == 10) = false := (u8_beq b 10).trans (decide_eq_false b2)
  have q3 : (((b).toNat : Int) == 96) = false := (u8_beq b 96).trans (decide_eq_false b3)
  have q4 : (((b).toNat : Int) == 91) = false := (u8_beq b 91).trans (decide_eq_false b4)
  have q5 : (((b).toNat : Int) == 42) = false := (u8_beq b 42).trans (decide_eq_false b5)
  clear b1 b2 b3 b4 b5
  go_enter Tryd.func69, Tryd.ntmps69
  go_wp2_with fail
  go_quiet (fail)
  obtain ⟨R, hR⟩ : ∃ R, s.extract (i + 1) s.size = R := ⟨_, rfl⟩
  rw [hR]
  have hRl : R.data.toList = t := by rw [← hR, rest_list, HT.out]
  have hRs : R.size ≤ 16777216 := by rw [← hR]; simp; omega
  clear hR w1 w2 w3 w4
  have hF : Fresh w (w.drewN nq) := (Keeps.refl _ w).drewN nq
  have HF := Lib.hid hF
  clear hRl hF
  go_wp2
  go_ret
  exact ⟨rfl, HF.out⟩
end Go.Proofs.YtbioecifiogffaaDoor
