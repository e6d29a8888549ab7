/- Texts of this proof, joined: BlkRef1, BlkRef2, BlkRef3, BlkRef4, BlkRef5, BlkRef6, BlkProg1, BlkProg2, BlkEmit, BlkRef7, BlkRef8, BlkRef9. Conditions: as each theorem names them. -/
import Derived.Test.YtbioecifiogffabGreatDoorR4
import Derived.Test.YtbioecifiogffabGreatDoorR2
import Derived.Test.YtbioecifiogffabGreatDoorR1
import Derived.IntWalk
import Derived.Deep.DeepCutAuto
import Derived.Lib.TrimByte
import Derived.Shelf.Strings.SlTrimAscii
import Derived.BigQuiet
import Derived.Deep.QuietTactic
import Derived.Shelf.Abstract
import Derived.Defers
import Derived.Deep.CutBlock
set_option linter.unusedVariables false
set_option linter.unusedSimpArgs false
set_option maxHeartbeats 8000000
set_option maxRecDepth 1000000
namespace Go.Proofs.YtbioecifiogffabGreatDoor
open Go.RowKit
end Go.Proofs.YtbioecifiogffabGreatDoor
namespace Go.Proofs.YtbioecifiogffabGreatDoor
open Go.RowKit
theorem isFen_pre (l : List UInt8) : Lib.hasPrefix l [96, 96, 96] = isFen l := by
 unfold Lib.hasPrefix isFen
 match l with
 | [] => rfl
 | [a] => simp [List.isPrefixOf]
 | [a, b] => simp [List.isPrefixOf]
 | a :: b :: c :: t =>
  by_cases h1 : a = 96
  ·by_cases h2 : b = 96
   ·by_cases h3 : c = 96
    ·subst h1 h2 h3; simp
    ·have : ¬ 96 = c := fun e => h3 e.symm
     simp [List.isPrefixOf, h1, h2, h3, this]
   ·have : ¬ 96 = b := fun e => h2 e.symm
    simp [List.isPrefixOf, h1, h2, this]
  ·have : ¬ 96 = a := fun e => h1 e.symm
   simp [List.isPrefixOf, h1, this]
theorem isQuo_pre (l : List UInt8) : Lib.hasPrefix l [62] = isQuo l := by
 cases l with
 | nil => rfl
 | cons a t =>
  rw [hasPrefix_cons]
  unfold isQuo
  by_cases h : a = 62
  ·subst h; simp
  ·simp [h]
theorem isInd_pre (l : List UInt8) : Lib.hasPrefix l [32, 32] = isInd l := by
 unfold Lib.hasPrefix isInd
 match l with
 | [] => rfl
 | [a] => simp [List.isPrefixOf]
 | a :: b :: t =>
  by_cases h1 : a = 32
  ·by_cases h2 : b = 32
   ·subst h1 h2; simp
   ·have : ¬ 32 = b := fun e => h2 e.symm
    simp [List.isPrefixOf, h1, h2, this]
  ·have : ¬ 32 = a := fun e => h1 e.symm
   simp [List.isPrefixOf, h1, this]
end Go.Proofs.YtbioecifiogffabGreatDoor
namespace Go.Proofs.YtbioecifiogffabGreatDoor
open Go.RowKit
end Go.Proofs.YtbioecifiogffabGreatDoor
namespace Go.Proofs.YtbioecifiogffabGreatDoor
open Go.RowKit
theorem own_grow {w W w' : World} {v v' : Value} (hF : Fresh w W) (ho : ∀ b, v.ownBlock = some b → w.heap.size ≤ b) (hg : Grow W v v') (hk : Keeps (fun k => v.ownBlock = some k) W w') : (∀ b, v'.ownBlock = some b → w.heap.size ≤ b) ∧ Fresh w w' := by
 refine ⟨fun b hb => ?_, hF.trans hk (fun j h1 h2 => by have := ho j h2; omega)⟩
 rcases hg b hb with h | h
 ·exact ho b h
 ·exact Nat.le_trans hF.size h
end Go.Proofs.YtbioecifiogffabGreatDoor
namespace Go.Proofs.YtbioecifiogffabGreatDoor
open Go.RowKit
theorem ln_at (w : World) (s : ByteArray) (t : TypeId) (H : Nat) (hH : w.heap.size = H) : ∀ ad, some (⟨H, 0, none⟩ : Addr) = some ad → ∀ j u, [Value.string s][j]? = some u → (w.alloc (.cells #[.string s] t)).cell? (ad.add j) = some u := by
 subst hH
 exact ln_new w s t
theorem ln_add (w : World) (s : ByteArray) (t : TypeId) {v : Value} {n : Nat} {xs : List Value} {e : TypeId} (h : w.ownsRow 0 e 1 v n xs) : (w.alloc (.cells #[.string s] t)).ownsRow 0 e 1 v n xs := own_kept h ((Keeps.refl (fun _ => False) _).alloc _) (fun _ _ h => h)
theorem str_empty (A : ByteArray) : A.toList.isEmpty = decide (A.data.toList = []) := by
 rw [ByteArray.toList_eq]
 cases A.data.toList <;> simp
end Go.Proofs.YtbioecifiogffabGreatDoor
namespace Go.Proofs.YtbioecifiogffabGreatDoor
open Go.RowKit
theorem line_at {l : List Ln} {j : Nat} (h : j < l.length) : ∃ s, l[j]? = some s ∧ l.drop j = s :: l.drop (j + 1) := by
 refine ⟨l[j], List.getElem?_eq_getElem h, List.drop_eq_getElem_cons h⟩
theorem mk_size (s : Ln) : (⟨s.toArray⟩ : ByteArray).size = s.length := by simp [ByteArray.size]
theorem mk_of (l : List UInt8) : ∃ A : ByteArray, (⟨l.toArray⟩ : ByteArray) = A ∧ A.data.toList = l ∧ A.size = l.length := ⟨_, rfl, rfl, by simp [ByteArray.size]⟩
theorem mk_rest (s : Ln) (k : Nat) : ((⟨s.toArray⟩ : ByteArray).extract k s.length).data.toList = s.drop k := by
 have := rest_list ⟨s.toArray⟩ k
 rw [mk_size] at this
 exact this
end Go.Proofs.YtbioecifiogffabGreatDoor
namespace Go.Proofs.YtbioecifiogffabGreatDoor
open Go.RowKit
theorem setZero (w : World) : (zeroValue 213).run Tryz.prog w = .ok (.agg (Array.replicate 256 (.bool false))) w := by kernel_rfl
theorem setSize : (Tryz.prog.info? 213).map (·.size) = some 256 := by kernel_rfl
theorem pTrim_any (s : ByteArray) (w : World) (hs : s.size ≤ 9223372036854775807) : Calls Tryz.prog 79 #[.string s, .string ⟨#[32, 9]⟩] w fun e w' => e = .returned (.string ⟨(trm s.data.toList).toArray⟩) ∧ Fresh w w' :=
 (Any.strings_Trim_ascii Tryz.lays160 setZero setSize s ⟨#[32, 9]⟩ w hs (by decide) (by
   intro j b hj
   match j, hj with
   | 0, hj => simp at hj; subst hj; decide
   | 1, hj => simp at hj; subst hj; decide)).mono fun _ _ ⟨h1, h2⟩ => ⟨h1, Fresh.of h2⟩
theorem dropWhile_nil (p : UInt8 → Bool) (l : List UInt8) : l.dropWhile p = [] ↔ l.all p = true := by
 induction l with
 | nil => simp
 | cons c t ih =>
  rw [List.dropWhile_cons]
  split
  ·rename_i h; simp [h, ih]
  ·rename_i h; simp [h]
theorem trm_blank (s : Ln) : trm s = [] ↔ blank s = true := by
 unfold trm Lib.trimS Lib.trimLeftS Lib.trimRightS blank
 rw [dropWhile_nil]
 have e : ∀ l : List UInt8, (l.dropWhile (([32, 9] : List UInt8).contains ·)).all (([32, 9] : List UInt8).contains ·) = l.all bl := by
  intro l
  induction l with
  | nil => rfl
  | cons c t ih =>
   rw [List.dropWhile_cons]
   split
   ·rename_i h; rw [ih, List.all_cons]; unfold bl; rw [h]; rfl
   ·rfl
 rw [List.all_reverse, e, List.all_reverse]
theorem empty_any (s : ByteArray) (w : World) (hs : s.size ≤ 9223372036854775807) : Calls Tryz.prog 65 #[.string s] w fun e w' => e = .returned (.bool (blank s.data.toList)) ∧ Fresh w w' := by
 have ht := pTrim_any s w hs
 obtain ⟨A, hA, hAl, hAs⟩ := mk_of (trm s.data.toList)
 rw [hA] at ht
 have hb : A.toList.isEmpty = blank s.data.toList := by
  rw [str_empty, hAl, Bool.eq_iff_iff, decide_eq_true_iff]
  exact trm_blank _
 generalize blank s.data.toList = B at *
 have HT := Lib.hid ht
 have HB := Lib.hid hb
 clear ht hA hAl hAs hb
 go_enter Tryz.func65, Tryz.ntmps65
 go_wp2_with fail
 refine HT.out.mono ?_
 rintro e w2 ⟨rfl, hk2⟩
 have HK2 := Lib.hid hk2
 clear hk2
 go_wp2
 go_ret
 exact ⟨by rw [← HB.out]; rfl, HK2.out⟩
theorem bl_index (c : UInt8) : decide (0 ≤ Lib.indexByte [32, 9] c) = bl c := by
 have h : ∀ n : Fin 256, decide (0 ≤ Lib.indexByte [32, 9] (UInt8.ofNat n.val)) = bl (UInt8.ofNat n.val) := by decide +kernel
 have := h ⟨c.toNat, c.toNat_lt⟩
 simpa using this
theorem hsh_trim (s : Ln) : Lib.trimLeftB s 35 = s.drop (hsh s) := by
 unfold Lib.trimLeftB
 induction s with
 | nil => rfl
 | cons c t ih =>
  rw [List.dropWhile_cons]
  by_cases h : c = 35
  ·subst h
   simp [hsh, ih]
  ·have : (c == 35) = false := by simpa using h
   rw [this]
   simp [hsh, h]
def hdB : Ln → Bool
 | [] => true
 | c :: _ => bl c
theorem lvl_ok (s : Ln) : decide (0 < lvl s) = (decide (1 ≤ hsh s) && decide (hsh s ≤ 3) && hdB (s.drop (hsh s))) := by
 unfold lvl
 by_cases h : hsh s < 1 ∨ 3 < hsh s
 ·rw [if_pos h]
  rcases h with h | h
  ·have : decide (1 ≤ hsh s) = false := by simp; omega
   simp [this]
  ·have : decide (hsh s ≤ 3) = false := by simp; omega
   simp [this]
 ·rw [if_neg h]
  have h1 : decide (1 ≤ hsh s) = true := by simp; omega
  have h2 : decide (hsh s ≤ 3) = true := by simp; omega
  rw [h1, h2]
  cases hd : s.drop (hsh s) with
  | nil =>
   have h3 : decide (0 < hsh s) = true := by simp; omega
   simp [h3, hdB]
  | cons c t =>
   have h3 : decide (0 < hsh s) = true := by simp; omega
   by_cases hb : bl c = true
   ·simp [h3, hb, hdB]
   ·simp [hb, hdB]
theorem heading_any (s : ByteArray) (w : World) (hs : s.size ≤ 16777216) : Calls Tryz.prog 82 #[.string s] w fun e w' => e = .returned (.tuple #[.int .i64 (hsh s.data.toList : Nat), .string ⟨(trm (s.data.toList.drop (hsh s.data.toList))).toArray⟩, .bool (decide (0 < lvl s.data.toList))]) ∧ Fresh w w' := by
 have htl := fun W : World => Tryz.strings_TrimLeft_one s 35 (by decide) W
 rw [hsh_trim] at htl
 have hle := hsh_le s.data.toList
 rw [show s.data.toList.length = s.size by simp] at hle
 rw [lvl_ok]
 obtain ⟨n, hn⟩ : ∃ n, hsh s.data.toList = n := ⟨_, rfl⟩
 rw [hn] at htl hle ⊢
 obtain ⟨R, hR⟩ : ∃ R, s.data.toList.drop n = R := ⟨_, rfl⟩
 rw [hR] at htl ⊢
 obtain ⟨A, hA, hAl, hAs⟩ := mk_of R
 rw [hA] at htl
 have hRl : R.length = s.size - n := by rw [← hR]; simp
 have htr := fun W : World => pTrim_any A W (by omega)
 rw [hAl] at htr
 have hA1 : (A.size : Int) = (s.size : Int) - (n : Int) := by omega
 have hAle : A.size ≤ s.size := by omega
 have hAE := str_empty A
 rw [hAl] at hAE
 have hsub : (s.size : Int) - (A.size : Int) = (n : Int) := by omega
 have HTL := Lib.hid htl
 have HTR := Lib.hid htr
 have HAL := Lib.hid hAl
 clear hn hR hA hAs hA1 hRl htl htr
 by_cases hlo : 1 ≤ n ∧ n ≤ 3
 ·obtain ⟨h1, h3⟩ := hlo
  have d1 : decide (1 ≤ n) = true := by simpa using h1
  have d3 : decide (n ≤ 3) = true := by simpa using h3
  have i1 : (1 : Int) ≤ (n : Int) := by omega
  have i3 : (n : Int) ≤ 3 := by omega
  rw [d1, d3]
  cases R with
  | nil =>
   have hA0 : A.toList = [] := by rw [ByteArray.toList_eq]; exact hAl
   have hAE2 : A.toList.isEmpty = true := by rw [hA0]; rfl
   clear hAE hA0 hAl d1 d3 h1 h3
   go_enter Tryz.func82, Tryz.ntmps82
   go_wp2_with fail
   refine (HTL.out _).mono ?_
   rintro e w2 ⟨rfl, rfl⟩
   go_wp2_with fail
   refine (HTR.out _).mono ?_
   rintro e w3 ⟨rfl, hk3⟩
   have HK3 := Lib.hid hk3
   clear hk3
   go_wp2
   go_ret3
   exact ⟨rfl, HK3.out⟩
  | cons c t =>
   have hA0 : 0 < A.size := by
    have := congrArg List.length hAl
    simp at this
    omega
   have hAc : A[0]'hA0 = c := by
    have := drop_lt hA0
    rw [List.drop_zero, hAl] at this
    injection this with h _
    exact h.symm
   have hAE2 : A.toList.isEmpty = false := by rw [ByteArray.toList_eq, hAl]; rfl
   have hAE3 : ¬ A.toList = [] := by rw [ByteArray.toList_eq, hAl]; simp
   have hAi : (0 : Int) < (A.size : Int) := by omega
   have hix := fun W : World => Tryz.strings_IndexByte ⟨#[32, 9]⟩ (c.toNat : Int) W
   have hbl := bl_index c
   have hce : (c.toNat : Int).toNat.toUInt8 = c := by simp
   rw [hce, show (⟨#[32, 9]⟩ : ByteArray).data.toList = [32, 9] from rfl] at hix
   generalize Lib.indexByte [32, 9] c = x at *
   have hd : hdB (c :: t) = decide (0 ≤ x) := hbl.symm
   rw [hd]
   have HIX := Lib.hid hix
   clear hAE hAl d1 d3 h1 h3 hix hbl hce hd
   go_enter Tryz.func82, Tryz.ntmps82
   go_wp2_with fail
   refine (HTL.out _).mono ?_
   rintro e w2 ⟨rfl, rfl⟩
   go_wp2_with fail
   refine (HIX.out _).mono ?_
   rintro e w3 ⟨rfl, rfl⟩
   go_wp2_with fail
   refine (HTR.out _).mono ?_
   rintro e w3 ⟨rfl, hk3⟩
   have HK3 := Lib.hid hk3
   clear hk3
   go_wp2
   go_ret3
   exact ⟨rfl, HK3.out⟩
 ·rcases (show n < 1 ∨ 3 < n by omega) with h | h
  ·have d1 : decide (1 ≤ n) = false := by simp; omega
   have i1 : ¬ (1 : Int) ≤ (n : Int) := by omega
   rw [d1]
   clear hAE d1 h hlo
   go_enter Tryz.func82, Tryz.ntmps82
   go_wp2_with fail
   refine (HTL.out _).mono ?_
   rintro e w2 ⟨rfl, rfl⟩
   go_wp2_with fail
   refine (HTR.out _).mono ?_
   rintro e w3 ⟨rfl, hk3⟩
   have HK3 := Lib.hid hk3
   clear hk3
   go_wp2
   go_ret3
   exact ⟨rfl, HK3.out⟩
  ·have d1 : decide (1 ≤ n) = true := by simp; omega
   have d3 : decide (n ≤ 3) = false := by simp; omega
   have i1 : (1 : Int) ≤ (n : Int) := by omega
   have i3 : ¬ (n : Int) ≤ 3 := by omega
   rw [d1, d3]
   clear hAE d1 d3 h hlo
   go_enter Tryz.func82, Tryz.ntmps82
   go_wp2_with fail
   refine (HTL.out _).mono ?_
   rintro e w2 ⟨rfl, rfl⟩
   go_wp2_with fail
   refine (HTR.out _).mono ?_
   rintro e w3 ⟨rfl, hk3⟩
   have HK3 := Lib.hid hk3
   clear hk3
   go_wp2
   go_ret3
   exact ⟨rfl, HK3.out⟩
theorem itm_cases (s : Ln) : (s = [45] ∧ isItm s = true) ∨ (∃ c t, s = 45 :: c :: t ∧ isItm s = bl c) ∨ (Lib.hasPrefix s [45] = false ∧ isItm s = false) := by
 cases s with
 | nil => exact .inr (.inr ⟨rfl, rfl⟩)
 | cons x t =>
  by_cases hx : x = 45
  ·subst hx
   cases t with
   | nil => exact .inl ⟨rfl, rfl⟩
   | cons c t => exact .inr (.inl ⟨c, t, rfl, rfl⟩)
  ·refine .inr (.inr ⟨?_, ?_⟩)
   ·unfold Lib.hasPrefix
    have h2 : ¬ 45 = x := fun e => hx e.symm
    simp [List.isPrefixOf, h2]
   ·unfold isItm
    split
    ·rename_i h; injection h with h _; exact absurd h hx
    ·rename_i h; injection h with h _; exact absurd h hx
    ·rfl
def ItmIs (s : Ln) (w : World) (e : Ending) (w' : World) : Prop := ∃ x : ByteArray, e = .returned (.tuple #[.string x, .bool (isItm s)]) ∧ (isItm s = true → x.data.toList = s.drop 2) ∧ Fresh w w'
theorem item_any (s : ByteArray) (w : World) (hs : s.size ≤ 16777216) : Calls Tryz.prog 85 #[.string s] w (ItmIs s.data.toList w) := by
 have hcp := fun W : World => Tryz.strings_CutPrefix s ⟨#[45]⟩ W
 rw [show (⟨#[45]⟩ : ByteArray).data.toList = [45] from rfl] at hcp
 obtain ⟨A, hA, hAl, hAs⟩ := mk_of (Lib.trimPrefix s.data.toList [45])
 rw [hA] at hcp
 rcases itm_cases s.data.toList with ⟨h1, hi⟩ | ⟨c, t, h1, hi⟩ | ⟨h1, hi⟩
 ·have hp : Lib.hasPrefix s.data.toList [45] = true := by rw [h1]; decide
  have ht : Lib.trimPrefix s.data.toList [45] = [] := by rw [h1]; decide
  rw [ht] at hAl
  rw [hp] at hcp
  have hA0 : A.toList = [] := by rw [ByteArray.toList_eq]; exact hAl
  have hAE2 : A.toList.isEmpty = true := by rw [hA0]; rfl
  have hd : ([] : List UInt8) = s.data.toList.drop 2 := by rw [h1]; rfl
  generalize s.data.toList = L at *
  have HCP := Lib.hid hcp
  have HD := Lib.hid hd
  have HI := Lib.hid hi
  clear hp ht hA hAl hAs h1 hcp hA0 hd hi
  go_enter Tryz.func85, Tryz.ntmps85
  go_wp2_with fail
  refine (HCP.out _).mono ?_
  rintro e w2 ⟨rfl, rfl⟩
  go_wp2
  go_ret2
  exact ⟨_, by rw [HI.out]; rfl, fun _ => HD.out, Keeps.refl _ _⟩
 ·have hp : Lib.hasPrefix s.data.toList [45] = true := by rw [h1]; unfold Lib.hasPrefix; simp
  have ht : Lib.trimPrefix s.data.toList [45] = c :: t := by unfold Lib.trimPrefix; rw [hp, h1]; simp
  rw [ht] at hAl
  rw [hp] at hcp
  have hA0 : 0 < A.size := by
   have := congrArg List.length hAl
   simp at this
   omega
  have hAc : A[0]'hA0 = c := by
   have := drop_lt hA0
   rw [List.drop_zero, hAl] at this
   injection this with h _
   exact h.symm
  have hAle : A.size ≤ s.size := by
   have h2 := congrArg List.length hAl
   have h3 := congrArg List.length h1
   simp at h2 h3
   omega
  have hAE2 : A.toList.isEmpty = false := by rw [ByteArray.toList_eq, hAl]; rfl
  have hAE3 : ¬ A.toList = [] := by rw [ByteArray.toList_eq, hAl]; simp
  have hAi : (0 : Int) < (A.size : Int) := by omega
  have hA1 : (1 : Int) ≤ (A.size : Int) := by omega
  have hix := fun W : World => Tryz.strings_IndexByte ⟨#[32, 9]⟩ (c.toNat : Int) W
  have hbl := bl_index c
  have hce : (c.toNat : Int).toNat.toUInt8 = c := by simp
  rw [hce, show (⟨#[32, 9]⟩ : ByteArray).data.toList = [32, 9] from rfl] at hix
  rw [← hi] at hbl
  generalize Lib.indexByte [32, 9] c = x at *
  have hd : (A.extract 1 A.size).data.toList = s.data.toList.drop 2 := by rw [rest_list, hAl, h1]; rfl
  generalize s.data.toList = L at *
  have HCP := Lib.hid hcp
  have HD := Lib.hid hd
  have HI := Lib.hid hbl
  have HIX := Lib.hid hix
  clear hp ht hA hAl hAs h1 hcp hd hi hbl hce hix
  go_enter Tryz.func85, Tryz.ntmps85
  go_wp2_with fail
  refine (HCP.out _).mono ?_
  rintro e w2 ⟨rfl, rfl⟩
  go_wp2
  go_quiet ((go_at_call 49; exact Calls.quiet_of_same (HIX.out _)))
  go_wp2
  go_ret2
  exact ⟨_, by rw [← HI.out]; rfl, fun _ => HD.out, (Keeps.refl _ _).drewN _⟩
 ·rw [h1] at hcp
  generalize s.data.toList = L at *
  have HCP := Lib.hid hcp
  have HI := Lib.hid hi
  clear hA hAl hAs h1 hcp hi
  go_enter Tryz.func85, Tryz.ntmps85
  go_wp2_with fail
  refine (HCP.out _).mono ?_
  rintro e w2 ⟨rfl, rfl⟩
  go_wp2
  go_ret2
  exact ⟨_, by rw [HI.out]; rfl, (fun h => by rw [HI.out] at h; cases h), Keeps.refl _ _⟩
def whatV (k : Nat) : Value :=
 if k = 2 then .func (.func 81) #[] #[]
 else if k = 3 then .func (.func 83) #[] #[]
 else if k = 4 then .func (.func 84) #[] #[]
 else if k = 5 then .func (.func 86) #[] #[]
 else .nilFunc
def Fnd (w : World) (C : Nat) (fv : Value) (d : Nat) : Prop := w.heap[C]? = some (.cells #[fv, .int .i64 d] 165 (0, 0))
theorem Fnd.fresh {w w' : World} {C d : Nat} {fv : Value} (h : Fnd w C fv d) (hk : Fresh w w') : Fnd w' C fv d := hk.heap_some h (fun h => h)
theorem Fnd.cells {w : World} {C d : Nat} {fv : Value} (h : Fnd w C fv d) : w.cell? ⟨C, 0, none⟩ = some fv ∧ w.cell? ⟨C, 1, none⟩ = some (.int .i64 d) :=
 ⟨by rw [Lib.cell_of_heap h]; rfl, by rw [Lib.cell_of_heap h]; rfl⟩
theorem what_any (C d : Nat) (fv : Value) (s : ByteArray) (w : World) (h : Fnd w C fv d) (hs : s.size ≤ 16777216) (hd : d ≤ 3) :
 Calls Tryz.prog 66 #[.pointer (some ⟨C, 0, none⟩), .string s] w fun e w' => e = .returned (whatV (sta s.data.toList d)) ∧ Fresh w w' := by
 have hpf := fun W : World => Tryz.strings_HasPrefix s ⟨#[96, 96, 96]⟩ W
 rw [show (⟨#[96, 96, 96]⟩ : ByteArray).data.toList = [96, 96, 96] from rfl, isFen_pre] at hpf
 have hpq := fun W : World => Tryz.strings_HasPrefix s ⟨#[62]⟩ W
 rw [show (⟨#[62]⟩ : ByteArray).data.toList = [62] from rfl, isQuo_pre] at hpq
 have hhd := fun W : World => heading_any s W hs
 have hit := fun W : World => item_any s W hs
 obtain ⟨k, hk⟩ : ∃ k, sta s.data.toList d = k := ⟨_, rfl⟩
 rw [hk]
 unfold sta at hk
 unfold ItmIs at hit
 generalize hsh s.data.toList = hn at *
 generalize trm (s.data.toList.drop hn) = tr at *
 generalize lvl s.data.toList = lv at *
 generalize isFen s.data.toList = b2 at *
 generalize isQuo s.data.toList = b4 at *
 generalize isItm s.data.toList = b5 at *
 have HPF := Lib.hid hpf
 have HPQ := Lib.hid hpq
 have HHD := Lib.hid hhd
 have HIT := Lib.hid hit
 have H := Lib.hid h
 clear hpf hpq hhd hit h
 cases b2 with
 | true =>
  have hk2 : k = 2 := by rw [← hk]; rfl
  subst hk2
  clear hk
  go_enter Tryz.func66, Tryz.ntmps66
  go_wp2_with fail
  refine (HPF.out _).mono ?_
  rintro e w2 ⟨rfl, rfl⟩
  go_wp2
  go_ret
  exact ⟨rfl, Keeps.refl _ _⟩
 | false =>
  by_cases hl : 0 < lv
  ·have hk2 : k = 3 := by rw [← hk]; simp [hl]
   subst hk2
   have hdl : decide (0 < lv) = true := by simpa using hl
   rw [hdl] at HHD
   clear hk hl hdl
   go_enter Tryz.func66, Tryz.ntmps66
   go_wp2_with fail
   refine (HPF.out _).mono ?_
   rintro e w2 ⟨rfl, rfl⟩
   go_wp2_with fail
   refine (HHD.out _).mono ?_
   rintro e w3 ⟨rfl, hk3⟩
   have HK3 := Lib.hid hk3
   clear hk3
   go_wp2
   go_ret
   exact ⟨rfl, HK3.out⟩
  ·have hdl : decide (0 < lv) = false := by simpa using hl
   rw [hdl] at HHD
   rw [if_neg (by decide), if_neg hl] at hk
   by_cases hd3 : d = 3
   ·subst hd3
    have hk2 : k = 0 := by rw [← hk]; simp
    subst hk2
    clear hk hl hdl
    go_enter Tryz.func66, Tryz.ntmps66
    go_wp2_with fail
    refine (HPF.out _).mono ?_
    rintro e w2 ⟨rfl, rfl⟩
    go_wp2_with fail
    refine (HHD.out _).mono ?_
    rintro e w3 ⟨rfl, hk3⟩
    have c1 : w3.cell? ⟨C, 1, none⟩ = some (.int .i64 3) := (H.out.fresh hk3).cells.2
    have HK3 := Lib.hid hk3
    clear hk3
    go_wp2
    go_ret
    exact ⟨rfl, HK3.out⟩
   ·have hde : ((d : Int) == 3) = false := by rw [beq_eq_false_iff_ne]; omega
    have hdd : decide (d < 3) = true := by simp; omega
    rw [hdd] at hk
    simp only [Bool.and_true] at hk
    cases b4 with
    | true =>
     have hk2 : k = 4 := by rw [← hk]; rfl
     subst hk2
     clear hk hl hdl hdd hd3
     go_enter Tryz.func66, Tryz.ntmps66
     go_wp2_with fail
     refine (HPF.out _).mono ?_
     rintro e w2 ⟨rfl, rfl⟩
     go_wp2_with fail
     refine (HHD.out _).mono ?_
     rintro e w3 ⟨rfl, hk3⟩
     have c1 : w3.cell? ⟨C, 1, none⟩ = some (.int .i64 d) := (H.out.fresh hk3).cells.2
     have HK3 := Lib.hid hk3
     clear hk3
     go_wp2_with fail
     refine (HPQ.out _).mono ?_
     rintro e w4 ⟨rfl, rfl⟩
     go_wp2
     go_ret
     exact ⟨rfl, HK3.out⟩
    | false =>
     have hk2 : k = if b5 = true then 5 else 0 := by rw [← hk]; rfl
     subst hk2
     clear hk hl hdl hdd hd3
     go_enter Tryz.func66, Tryz.ntmps66
     go_wp2_with fail
     refine (HPF.out _).mono ?_
     rintro e w2 ⟨rfl, rfl⟩
     go_wp2_with fail
     refine (HHD.out _).mono ?_
     rintro e w3 ⟨rfl, hk3⟩
     have c1 : w3.cell? ⟨C, 1, none⟩ = some (.int .i64 d) := (H.out.fresh hk3).cells.2
     have HK3 := Lib.hid hk3
     clear hk3
     go_wp2_with fail
     refine (HPQ.out _).mono ?_
     rintro e w4 ⟨rfl, rfl⟩
     go_wp2_with fail
     refine (HIT.out _).mono ?_
     rintro e w5 ⟨x, rfl, -, hk5⟩
     have HK5 := Lib.hid (HK3.out.tr hk5)
     clear hk5
     cases b5
     ·go_wp2
      go_ret
      exact ⟨rfl, HK5.out⟩
     ·go_wp2
      go_ret
      exact ⟨rfl, HK5.out⟩
end Go.Proofs.YtbioecifiogffabGreatDoor
namespace Go.Proofs.YtbioecifiogffabGreatDoor
open Go.RowKit
theorem splA_count (n : Nat) : ∀ s : List UInt8, Lib.count s [10] = n → (splA [] s).length = n + 1 := by
 induction n with
 | zero =>
  intro s h
  cases hf : fnd 10 s with
  | none => rw [splA_none _ hf]; rfl
  | some k =>
   have := Lib.count_hit (s := s) (sub := [10]) (i := k) (by simp) (by rw [index_fnd, hf]; simp [plc])
   omega
 | succ n ih =>
  intro s h
  cases hf : fnd 10 s with
  | none =>
   have hi : Lib.index s [10] = -1 := by rw [index_fnd, hf]; rfl
   have : Lib.count s [10] = 0 := Lib.count_miss hi
   omega
  | some k =>
   have hi : Lib.index s [10] = (k : Nat) := by rw [index_fnd, hf]; simp [plc]
   have hc := Lib.count_hit (s := s) (sub := [10]) (i := k) (by simp) hi
   rw [splA_some _ hf, List.length_cons, ih _ (by simp at hc ⊢; omega)]
theorem LnAt.lit (w : World) (l : List Ln) (t : TypeId) (hl : l.length ≤ maxLen) : LnAt (w.alloc (.cells (lnCells l).toArray t)) w.heap.size (.slice (some ⟨w.heap.size, 0, none⟩) l.length l.length) l := by
 refine ⟨_, _, 0, rfl, Nat.le_refl _, hl, fun _ => ⟨rfl, fun j s hj => ?_⟩⟩
 have hh := heap_alloc_new w (.cells (lnCells l).toArray t)
 rw [Lib.cell_of_heap hh, Nat.zero_add]
 have := lnCells_get l j s hj
 simpa using this
theorem LnAt.uptov {w : World} {g n cap : Nat} {a : Option Addr} {l : List Ln} (h : LnAt w g (.slice a n cap) l) (k : Nat) (hk : k ≤ l.length) : LnAt w g (.slice a k cap) (l.take k) := by
 obtain ⟨a', cap', off, he, h2, h3, h4⟩ := h
 cases he
 refine ⟨a, cap, off, by rw [List.length_take, Nat.min_eq_left hk], by rw [List.length_take]; omega, h3, fun hne => ?_⟩
 have hne' : l ≠ [] := fun e => by rw [e] at hne; simp at hne
 obtain ⟨ha, hc⟩ := h4 hne'
 exact ⟨ha, fun j s hj => hc j s (by rw [List.getElem?_take] at hj; split at hj; exact hj; cases hj)⟩
theorem pLines_any (s : ByteArray) (w : World) (hs : s.size ≤ 16777216) (hG : Gl w) :
 Calls Tryz.prog 58 #[.string s] w fun e w' => ∃ v, e = .returned v ∧ LnAt w' w.heap.size v (lns s.data.toList) ∧ Fresh w w' := by
 obtain ⟨⟨m, hm⟩, -⟩ := hG
 have hsp := Tryz.strings_Split s ⟨#[10]⟩ m w (by omega) hm (by decide)
 obtain ⟨L, hL⟩ : ∃ L, splA [] s.data.toList = L := ⟨_, rfl⟩
 have hne : L ≠ [] := by rw [← hL]; exact splA_ne _ _
 have hcnt : L.length = Lib.countB s ⟨#[10]⟩ + 1 := by rw [← hL]; exact splA_count _ _ rfl
 have hof : offE L = lns s.data.toList := by rw [← hL]; exact lns_spl [] _
 have hcells : (Lib.splitB ⟨#[10]⟩ 0 (Lib.countB s ⟨#[10]⟩) s).map Value.string = lnCells L := by
  have h1 := Lib.splitB_data ⟨#[10]⟩ 0 (Lib.countB s ⟨#[10]⟩) s
  have h2 : Lib.splitK [10] 0 (Lib.countB s ⟨#[10]⟩) s.data.toList = L := by rw [← hL]; exact splitK_spl _ _ rfl
  rw [show (⟨#[10]⟩ : ByteArray).data.toList = [10] from rfl, h2] at h1
  rw [← h1]
  unfold lnCells
  rw [List.map_map]
  rfl
 have hct := Lib.countB_le ⟨#[10]⟩ (by decide) s.size s (Nat.le_refl _)
 rw [hcells, ← hcnt] at hsp
 rw [← hof]
 have hat := LnAt.lit w L 9 (by unfold maxLen; omega)
 obtain ⟨W, hW⟩ : ∃ W, w.alloc (.cells (lnCells L).toArray 9) = W := ⟨_, rfl⟩
 have hF : Fresh w W := by rw [← hW]; exact (Keeps.refl _ _).alloc _
 rw [hW] at hat hsp
 obtain ⟨M, x, hx⟩ : ∃ M x, L = M ++ [x] := by
  rcases List.eq_nil_or_concat L with h | ⟨m, x, h⟩
  ·exact absurd h hne
  ·exact ⟨m, x, by rw [h, List.concat_eq_append]⟩
 have hML : L.length = M.length + 1 := by rw [hx]; simp
 have hlast : L[M.length]? = some x := by rw [hx]; simp
 obtain ⟨cap, off, hv, -, -, hcell⟩ := hat.line hlast
 cases hv
 rw [Nat.zero_add] at hcell
 obtain ⟨X, hX, hXl, hXs⟩ := mk_of x
 rw [hX] at hcell
 have hXE := str_empty X
 rw [hXl] at hXE
 have hML2 : M.length ≤ 16777216 := by omega
 have hof2 : offE L = if x = [] then M else L := by
  unfold offE
  have h1 : L.getLast? = some x := by rw [hx]; simp
  have h2 : L.dropLast = M := by rw [hx]; simp
  rw [h1, h2]
  by_cases h : x = []
  ·rw [if_pos h, if_pos (by rw [h])]
  ·rw [if_neg h, if_neg (fun e => h (Option.some.inj e))]
 rw [hof2]
 have htk : L.take M.length = M := by rw [hx]; simp
 have HSP := Lib.hid hsp
 have HAT := Lib.hid hat
 have HF := Lib.hid hF
 have HTK := Lib.hid htk
 have HML := Lib.hid hML
 rw [hML] at HSP HAT
 clear hsp hat hF hL hne hcnt hof hcells hW hX hlast hof2 hct htk hML hXs hx
 by_cases h0 : x = []
 ·rw [if_pos h0]
  have hXE2 : X.toList.isEmpty = true := by rw [hXE]; simpa using h0
  clear hXE h0 hXl
  go_enter Tryz.func58, Tryz.ntmps58
  go_wp2_with fail
  refine HSP.out.mono ?_
  rintro e w2 ⟨rfl, rfl⟩
  go_wp2
  go_ret
  refine ⟨_, rfl, ?_, HF.out⟩
  have := HAT.out.uptov M.length (by have := HML.out; omega)
  rw [HTK.out] at this
  exact this
 ·rw [if_neg h0]
  have hXE2 : X.toList.isEmpty = false := by rw [hXE]; simpa using h0
  have hXE3 : ¬ X.toList = [] := by rw [ByteArray.toList_eq, hXl]; exact h0
  clear hXE h0 hXl
  go_enter Tryz.func58, Tryz.ntmps58
  go_wp2_with fail
  refine HSP.out.mono ?_
  rintro e w2 ⟨rfl, rfl⟩
  go_wp2
  go_ret
  exact ⟨_, rfl, HAT.out, HF.out⟩
theorem skip_any (g : Nat) (v : Value) (l : List Ln) (w : World) (h : LnAt w g v l) (hL : tot l ≤ 16777216) :
 Calls Tryz.prog 123 #[v] w fun e w' => e = .returned (.int .i64 ((nbl l : Nat) : Int)) ∧ Fresh w w' := by
 obtain ⟨N, hN⟩ : ∃ N, nbl l = N := ⟨_, rfl⟩
 rw [hN]
 obtain ⟨a, cap, rfl⟩ := h.form
 have hlen := tot_len l
 have h0 : 0 + nbl (l.drop 0) = N := by rw [Nat.zero_add, List.drop_zero]; exact hN
 have HN := Lib.hid h0
 have H := Lib.hid h
 clear hN h h0
 go_enter Tryz.func123, Tryz.ntmps123
 go_wp2
 go_loopw [3] (fun i wr => ∃ j : Nat, i = .int .i64 j ∧ j ≤ l.length ∧ j + nbl (l.drop j) = N ∧ Fresh w wr) (fun i _ => l.length - (intOf i).toNat)
 case atStart => exact ⟨0, rfl, Nat.zero_le _, HN.out, Keeps.refl _ _⟩
 case round =>
  obtain ⟨j, rfl, hj, hr, hF⟩ := hrel
  by_cases hlt : j < l.length
  ·obtain ⟨s, hs⟩ : ∃ s, l[j]? = some s := ⟨l[j], List.getElem?_eq_getElem hlt⟩
   have hd : l.drop j = s :: l.drop (j + 1) := by
    rw [List.drop_eq_getElem_cons hlt]
    rw [List.getElem?_eq_getElem hlt] at hs
    injection hs with hs
    rw [hs]
   obtain ⟨cap', off, he, h1, h2, hcell⟩ := (H.out.fresh hF).line hs
   cases he
   have hsz : s.length ≤ tot l := by
    have := tot_drop l j
    rw [hd, tot_cons] at this
    omega
   have hbl := fun W : World => empty_any ⟨s.toArray⟩ W (by simp [ByteArray.size]; omega)
   rw [show (⟨s.toArray⟩ : ByteArray).data.toList = s from rfl] at hbl
   rw [hd] at hr
   unfold nbl at hr
   cases hb : blank s with
   | true =>
    rw [hb] at hbl hr
    have hr2 : j + 1 + nbl (l.drop (j + 1)) = N := by rw [if_pos rfl] at hr; omega
    have HR := Lib.hid hr2
    have HB := Lib.hid hbl
    have HF := Lib.hid hF
    clear hr hr2 hbl hF hd hs hb
    go_wp2_with fail
    refine (HB.out _).mono ?_
    rintro r w2 ⟨rfl, hk2⟩
    have HF2 := Lib.hid (HF.out.tr hk2)
    clear hk2
    go_wp2
    go_roundw
    case rel => exact ⟨j + 1, by go_num, by omega, HR.out, HF2.out⟩
    case measure => simp [intOf]; omega
   | false =>
    rw [hb] at hbl hr
    have hr2 : N = j := by simpa using hr.symm
    subst hr2
    have HB := Lib.hid hbl
    have HF := Lib.hid hF
    clear hr hbl hF hd hs hb
    go_wp2_with fail
    refine (HB.out _).mono ?_
    rintro r w2 ⟨rfl, hk2⟩
    have HF2 := Lib.hid (HF.out.tr hk2)
    clear hk2
    go_wp2
    go_ret
    exact ⟨rfl, HF2.out⟩
  ·obtain rfl : j = l.length := by omega
   rw [List.drop_length] at hr
   have hr2 : N = l.length := by simpa [nbl] using hr.symm
   have HR := Lib.hid hr2
   clear hr hr2 hlt
   go_wp2
   go_ret
   exact ⟨by rw [HR.out]; rfl, hF⟩
end Go.Proofs.YtbioecifiogffabGreatDoor
namespace Go.Proofs.YtbioecifiogffabGreatDoor
open Go.RowKit
def evV (e : Ev) : Value := .agg #[.int .i64 e.kind, .bool e.fin, .int .i64 e.level, .string ⟨e.text.toArray⟩]
structure EmitOK (k : Nat) (caps : Array Value) (R : List EvL) (F : World → List EvL → (Nat → Prop) → Prop) : Prop where
 enter : ∀ (args : Array Value) (w : World), (callFunc k args).run Tryz.prog w = .ok (.enter k args) w
 lt : ∀ {w : World} {L : List EvL} {o : Nat → Prop}, F w L o → ∀ b, o b → b < w.heap.size
 keep : ∀ {D : Nat → Prop} {w w' : World} {L : List EvL} {o : Nat → Prop}, F w L o → Keeps D w w' → (∀ b, D b → ¬ o b) → F w' L o
 call : ∀ (x : EvL) (w : World) (L : List EvL) (o : Nat → Prop), F w L o → (∃ rest, L ++ x :: rest = R) →
  Calls Tryz.prog k (#[evV x.1, .bool x.2] ++ caps) w fun e w' => e = .returned (.tuple #[]) ∧ ∃ o', F w' (L ++ [x]) o' ∧ Mv o o' w w'
theorem EmitOK.fresh {k : Nat} {caps : Array Value} {R : List EvL} {F : World → List EvL → (Nat → Prop) → Prop} (E : EmitOK k caps R F) {w w' : World} {L : List EvL} {o : Nat → Prop} (h : F w L o) (hk : Fresh w w') : F w' L o := E.keep h hk (fun _ h => h.elim)
def fnV (k : Nat) (caps : Array Value) : Value := .func (.func k) #[] caps
section
variable {k : Nat} {caps : Array Value} {R : List EvL} {F : World → List EvL → (Nat → Prop) → Prop}
theorem text_any (E : EmitOK k caps R F) (C d : Nat) (s : ByteArray) (lf : Bool) (w : World) (L : List EvL) (o : Nat → Prop) (h : Fnd w C (fnV k caps) d) (hF : F w L o) (hR : ∃ rest, L ++ txE s.data.toList lf ++ rest = R) :
 Calls Tryz.prog 89 #[.pointer (some ⟨C, 0, none⟩), .string s, .bool lf] w fun e w' => e = .returned (.tuple #[]) ∧ ∃ o', F w' (L ++ txE s.data.toList lf) o' ∧ Mv o o' w w' := by
 by_cases h0 : s.data.toList = []
 ·have hq : s.toList = [] := by rw [ByteArray.toList_eq, h0]
  have he : txE s.data.toList lf = [] := by rw [h0]; rfl
  rw [he, List.append_nil]
  have HF := Lib.hid hF
  clear h0 he hF h hR
  go_enter Tryz.func89, Tryz.ntmps89
  go_wp2
  go_end0
  exact ⟨rfl, o, HF.out, Mv.refl _ _⟩
 ·have hq : s.toList.isEmpty = false := by rw [ByteArray.toList_eq]; simpa using h0
  have hq2 : ¬ s.toList = [] := by rw [ByteArray.toList_eq]; exact h0
  have he : txE s.data.toList lf = [(⟨8, false, 0, s.data.toList⟩, lf)] := by unfold txE; rw [if_neg h0]
  rw [he] at hR ⊢
  obtain ⟨rest, hR⟩ := hR
  have hc := fun (W : World) (hW : F W L o) => E.call (⟨8, false, 0, s.data.toList⟩, lf) W L o hW ⟨rest, by rw [← hR]; simp⟩
  unfold evV at hc
  simp only [show (⟨s.data.toList.toArray⟩ : ByteArray) = s from rfl] at hc
  obtain ⟨c0, -⟩ := h.cells
  unfold fnV at c0
  have eg := E.enter
  have HC := Lib.hid hc
  have HF := Lib.hid hF
  clear h0 he hF h hR hc
  go_enter Tryz.func89, Tryz.ntmps89
  go_wp2_with fail
  refine (HC.out _ HF.out).mono ?_
  rintro e w2 ⟨rfl, o', hF', hm⟩
  have HF2 := Lib.hid hF'
  have HM2 := Lib.hid hm
  clear hF' hm
  go_wp2
  go_end0
  exact ⟨rfl, o', HF2.out, HM2.out⟩
def MvX (X o o' : Nat → Prop) (w w' : World) : Prop := Keeps (fun j => o j ∨ X j) w w' ∧ ∀ j, o' j → o j ∨ w.heap.size ≤ j
theorem MvX.of {X o o' : Nat → Prop} {w w' : World} (h : Mv o o' w w') : MvX X o o' w w' := ⟨h.1.mono (fun _ _ h => .inl h), h.2⟩
theorem MvX.trans {X o o' o'' : Nat → Prop} {a b c : World} (h : MvX X o o' a b) (h' : MvX X o' o'' b c) : MvX X o o'' a c :=
 ⟨h.1.trans h'.1 (fun j hj ho => by
   rcases ho with ho | ho
   ·exact .inl ((h.2 j ho).resolve_right (by omega))
   ·exact .inr ho), fun j hj => by
   rcases h'.2 j hj with h1 | h1
   ·exact h.2 j h1
   ·exact .inr (Nat.le_trans h.1.size h1)⟩
theorem Mv.heap {o o' : Nat → Prop} {w w' : World} (h : Mv o o' w w') {b : Nat} {x : Obj} (hb : w.heap[b]? = some x) (ho : ¬ o b) : w'.heap[b]? = some x := h.1.heap_some hb ho
theorem MvX.heap {X o o' : Nat → Prop} {w w' : World} (h : MvX X o o' w w') {b : Nat} {x : Obj} (hb : w.heap[b]? = some x) (ho : ¬ o b) (hX : ¬ X b) : w'.heap[b]? = some x := h.1.heap_some hb (fun h => h.elim ho hX)
theorem MvX.not {X o o' : Nat → Prop} {w w' : World} (h : MvX X o o' w w') {b : Nat} (hb : b < w.heap.size) (ho : ¬ o b) : ¬ o' b := fun h' => by
 rcases h.2 b h' with h1 | h1
 ·exact ho h1
 ·omega
theorem Mv.not {o o' : Nat → Prop} {w w' : World} (h : Mv o o' w w') {b : Nat} (hb : b < w.heap.size) (ho : ¬ o b) : ¬ o' b := fun h' => by
 rcases h.2 b h' with h1 | h1
 ·exact ho h1
 ·omega
theorem wp_calm {P : Program} {s : Code} {K : Act → World → Prop} {Q' : Exit → Act → World → Prop} {a : Act} {w : World} (h : s.wp P (Exit.then K (fun _ _ _ => False)) a w) : s.wp P (Exit.then K Q') a w := by
 refine wp_mono h ?_
 intro e a' w' hq
 cases e with
 | normal => exact hq
 | exit id => exact hq.elim
 | goto l => exact hq.elim
 | ret => exact hq.elim
 | panic ch => exact hq.elim
 | outgrown => exact hq.elim
theorem wp_last {P : Program} {s : Code} {Q : Exit → Act → World → Prop} {a : Act} {w : World} (R : Act → World → Prop) (h : s.wp P (Exit.then R (fun _ _ _ => False)) a w) (hR : ∀ a' w', R a' w' → Q .normal a' w') : s.wp P Q a w := by
 refine wp_mono h ?_
 intro e a' w' hq
 cases e with
 | normal => exact hR _ _ hq
 | exit id => exact hq.elim
 | goto l => exact hq.elim
 | ret => exact hq.elim
 | panic ch => exact hq.elim
 | outgrown => exact hq.elim
def DoOK (F : World → List EvL → (Nat → Prop) → Prop) (X : Nat → Prop) (Q : World → (Nat → Prop) → Prop) (L M : List EvL) (w : World) (o : Nat → Prop) (e : Ending) (w' : World) : Prop :=
 e = .returned (.tuple #[]) ∧ ∃ o', F w' (L ++ M) o' ∧ MvX X o o' w w' ∧ Q w' o'
def WithinOK (F : World → List EvL → (Nat → Prop) → Prop) (X : Nat → Prop) (Q : World → (Nat → Prop) → Prop) (L M : List EvL) (w : World) (o : Nat → Prop) (e : Ending) (w' : World) : Prop :=
 e = .returned (.tuple #[]) ∧ ∃ w2 o2 o', Q w2 o2 ∧ MvX (fun j => j = w.heap.size + 1) o2 o' w2 w' ∧ F w' (L ++ M) o' ∧ MvX X o o' w w'
theorem within_end (E : EmitOK k caps R F) (C d B3 B4 : Nat) (ev : Ev) (u : FrameMode) (w : World) (L : List EvL) (o : Nat → Prop) (h : Fnd w C (fnV k caps) d) (hF : F w L o)
 (h3 : w.heap[B3]? = some (.cells #[.pointer (some ⟨C, 0, none⟩)] 163 (0, 0))) (h4 : w.heap[B4]? = some (.cells #[.int .i64 ev.kind, .bool ev.fin, .int .i64 ev.level, .string ⟨ev.text.toArray⟩] 69 (0, 0)))
 (n4 : ¬ o B4) (hR : ∃ rest, L ++ ({ ev with fin := true }, false) :: rest = R) :
 CallsD Tryz.prog 124 #[.pointer (some ⟨B4, 0, none⟩), .pointer (some ⟨B3, 0, none⟩)] u w fun e u' w' => u' = u ∧ e = .returned (.tuple #[]) ∧ ∃ o', F w' (L ++ [({ ev with fin := true }, false)]) o' ∧ MvX (fun j => j = B4) o o' w w' := by
 have eg := E.enter
 have hn34 : B3 ≠ B4 := by rintro rfl; have := h3.symm.trans h4; cases this
 have hnC4 : C ≠ B4 := by rintro rfl; have := h.symm.trans h4; cases this
 obtain ⟨W, hW⟩ : ∃ W, w.setCell ⟨B4, 1, none⟩ (.bool true) = W := ⟨_, rfl⟩
 have hK : Keeps (fun j => j = B4) w W := by rw [← hW]; exact Keeps.setCell (D := fun j => j = B4) (Keeps.refl _ w) (p := ⟨B4, 1, none⟩) (fun _ => rfl) _
 have h4' : W.heap[B4]? = some (.cells #[.int .i64 ev.kind, .bool true, .int .i64 ev.level, .string ⟨ev.text.toArray⟩] 69 (0, 0)) := by
  rw [← hW]; simp [World.setCell, Array.getElem?_modify, h4]
 have h3' := hK.heap_some h3 hn34
 have hfd := hK.heap_some h hnC4
 have b0 : w.cell? ⟨B4, 1, none⟩ = some (.bool ev.fin) := by rw [Lib.cell_of_heap h4]; rfl
 have b1 : w.frozen? ⟨B4, 1, none⟩ = false := Lib.frozen_of_heap h4 1
 have c3 : W.cell? ⟨B3, 0, none⟩ = some (.pointer (some ⟨C, 0, none⟩)) := by rw [Lib.cell_of_heap h3']; rfl
 have c40 : W.cell? ⟨B4, 0, none⟩ = some (.int .i64 ev.kind) := by rw [Lib.cell_of_heap h4']; rfl
 have c41 : W.cell? ⟨B4, 1, none⟩ = some (.bool true) := by rw [Lib.cell_of_heap h4']; rfl
 have c42 : W.cell? ⟨B4, 2, none⟩ = some (.int .i64 ev.level) := by rw [Lib.cell_of_heap h4']; rfl
 have c43 : W.cell? ⟨B4, 3, none⟩ = some (.string ⟨ev.text.toArray⟩) := by rw [Lib.cell_of_heap h4']; rfl
 have f0 : W.cell? ⟨C, 0, none⟩ = some (.func (.func k) #[] caps) := by rw [Lib.cell_of_heap hfd]; rfl
 have hFW := E.keep hF hK (fun b hb => by rw [hb]; exact n4)
 have hc := fun (W' : World) (hW' : Fresh W W') => E.call ({ ev with fin := true }, false) W' L o (E.fresh hFW hW') hR
 unfold evV at hc
 have HC := Lib.hid hc
 have HK := Lib.hid hK
 clear hc hFW hF hR E h h3 h4 h3' h4' hfd hK
 go_enter_d Tryz.func124, Tryz.ntmps124
 go_upto_region 1 with fail
 refine wp_last (fun a wx => a.defers = [] ∧ ∃ o1, F wx (L ++ [({ ev with fin := true }, false)]) o1 ∧ Mv o o1 W wx) ?_ ?_
 ·go_region_with (go_at_fn k; refine (HC.out _ (by repeat (first | exact Keeps.refl _ _ | refine Keeps.drew ?_ | refine Keeps.drewN ?_ _))).mono ?_; rintro e w' ⟨rfl, o1, hF1, hm1⟩)
  all_goals (go_wp2_with fail; exact ⟨trivial, o1, hF1, (Mv.fresh (by repeat (first | exact Keeps.refl _ _ | refine Keeps.drew ?_ | refine Keeps.drewN ?_ _))).trans hm1⟩)
 ·rintro a' w' ⟨hd, o1, hF1, hm1⟩
  refine ⟨hd, .tuple #[], results_none rfl _ _ _, rfl, o1, hF1, ?_, fun j hj => ?_⟩
  ·exact (HK.out.mono (fun _ _ h => .inr h)).trans (hm1.1.mono (fun _ _ h => .inl h)) (fun _ _ h => h)
  ·rcases hm1.2 j hj with h1 | h1
   ·exact .inl h1
   ·exact .inr (Nat.le_trans HK.out.size h1)
theorem within_any (E : EmitOK k caps R F) (X : Nat → Prop) (Q : World → (Nat → Prop) → Prop) (C d : Nat) (ev : Ev) (kd : Nat) (capsd : Array Value) (M : List EvL) (w : World) (L : List EvL) (o : Nat → Prop)
 (h : Fnd w C (fnV k caps) d) (hF : F w L o) (hC : ¬ o C) (hX : ∀ j, X j → j < w.heap.size ∧ j ≠ C) (hR : ∃ rest, L ++ (ev, false) :: (M ++ ({ ev with fin := true }, false) :: rest) = R)
 (ed : ∀ (args : Array Value) (w : World), (callFunc kd args).run Tryz.prog w = .ok (.enter kd args) w)
 (hdo : ∀ (w1 : World) (o1 : Nat → Prop), F w1 (L ++ [(ev, false)]) o1 → Mv o o1 w w1 → Calls Tryz.prog kd capsd w1 (DoOK F X Q (L ++ [(ev, false)]) M w1 o1)) :
 Calls Tryz.prog 87 #[.pointer (some ⟨C, 0, none⟩), evV ev, fnV kd capsd] w (WithinOK F X Q L ((ev, false) :: (M ++ [({ ev with fin := true }, false)])) w o) := by
 obtain ⟨rest, hR⟩ := hR
 have hmf : ∀ (fn : Fn) (first cap : Array Value) (w : World), (Instr.makeFunc fn first cap).run Tryz.prog w = .ok (.func fn first cap) w := fun _ _ _ _ => rfl
 have eg := E.enter
 unfold evV fnV
 obtain ⟨W, hW⟩ : ∃ W, (w.alloc (.cells #[.pointer (some ⟨C, 0, none⟩)] 163)).alloc (.cells #[.int .i64 ev.kind, .bool ev.fin, .int .i64 ev.level, .string ⟨ev.text.toArray⟩] 69) = W := ⟨_, rfl⟩
 have hFW : Fresh w W := by rw [← hW]; exact ((Keeps.refl _ _).alloc _).alloc _
 have hz : w.heap.size + 1 < W.heap.size := by rw [← hW]; simp
 have hlt := E.lt hF
 have t3 : W.heap[w.heap.size]? = some (.cells #[.pointer (some ⟨C, 0, none⟩)] 163 (0, 0)) := by
  rw [← hW, Below.heap_alloc _ _ _ (by simp)]
  exact heap_alloc_new w _
 have t4 : W.heap[w.heap.size + 1]? = some (.cells #[.int .i64 ev.kind, .bool ev.fin, .int .i64 ev.level, .string ⟨ev.text.toArray⟩] 69 (0, 0)) := by
  rw [← hW]
  have := heap_alloc_new (w.alloc (.cells #[.pointer (some ⟨C, 0, none⟩)] 163)) (.cells #[.int .i64 ev.kind, .bool ev.fin, .int .i64 ev.level, .string ⟨ev.text.toArray⟩] 69)
  simpa using this
 have hfW := h.fresh hFW
 have c3 : W.cell? ⟨w.heap.size, 0, none⟩ = some (.pointer (some ⟨C, 0, none⟩)) := by rw [Lib.cell_of_heap t3]; rfl
 have c40 : W.cell? ⟨w.heap.size + 1, 0, none⟩ = some (.int .i64 ev.kind) := by rw [Lib.cell_of_heap t4]; rfl
 have c41 : W.cell? ⟨w.heap.size + 1, 1, none⟩ = some (.bool ev.fin) := by rw [Lib.cell_of_heap t4]; rfl
 have c42 : W.cell? ⟨w.heap.size + 1, 2, none⟩ = some (.int .i64 ev.level) := by rw [Lib.cell_of_heap t4]; rfl
 have c43 : W.cell? ⟨w.heap.size + 1, 3, none⟩ = some (.string ⟨ev.text.toArray⟩) := by rw [Lib.cell_of_heap t4]; rfl
 have f0 : W.cell? ⟨C, 0, none⟩ = some (.func (.func k) #[] caps) := hfW.cells.1
 have hc := fun (W' : World) (hW' : Fresh W W') => E.call (ev, false) W' L o (E.fresh hF (hFW.tr hW')) ⟨_, hR⟩
 unfold evV at hc
 have HC := Lib.hid hc
 have HF := Lib.hid hF
 have HFW := Lib.hid hFW
 have HDO := Lib.hid hdo
 have HR := Lib.hid hR
 have HE := Lib.hid E
 have HX := Lib.hid hX
 have HLT := Lib.hid hlt
 have HT3 := Lib.hid t3
 have HT4 := Lib.hid t4
 have HFD := Lib.hid hfW
 have HFD0 := Lib.hid h
 clear hc hF hFW hdo hR E hX hlt t3 t4 hfW h
 go_enter_defers Tryz.func87, Tryz.ntmps87
 go_upto_region 1 with fail
 clear hW
 go_cut [0, 1, 2, 3, 4] from 5 to 14 (fun s0 s1 s2 s3 s4 wx => s2 = .func (.func kd) #[] capsd ∧ s3 = .pointer (some ⟨w.heap.size, 0, none⟩) ∧ s4 = .pointer (some ⟨w.heap.size + 1, 0, none⟩) ∧ ∃ o1, F wx (L ++ [(ev, false)]) o1 ∧ Mv o o1 W wx)
 case first =>
  refine wp_calm ?_
  go_region_with (go_at_fn k; refine (HC.out _ (by repeat (first | exact Keeps.refl _ _ | refine Keeps.drew ?_ | refine Keeps.drewN ?_ _))).mono ?_; rintro e w' ⟨rfl, o1, hF1, hm1⟩)
  all_goals (go_wp2_with fail; go_meet; exact ⟨rfl, rfl, rfl, o1, hF1, (Mv.fresh (by repeat (first | exact Keeps.refl _ _ | refine Keeps.drew ?_ | refine Keeps.drewN ?_ _))).trans hm1⟩)
 case rest =>
  obtain ⟨rfl, rfl, rfl, o1, hF1, hm1⟩ := hcut
  have hm0 : Mv o o1 w wc := (Mv.fresh HFW.out).trans hm1
  have n3 : ¬ o w.heap.size := fun h => by have := HLT.out _ h; omega
  have n4 : ¬ o (w.heap.size + 1) := fun h => by have := HLT.out _ h; omega
  have t3 := hm1.heap HT3.out n3
  have t4 := hm1.heap HT4.out n4
  have tf := hm1.heap HFD.out hC
  have hdo := HDO.out wc o1 hF1 hm0
  have HDO1 := Lib.hid hdo
  have HM0 := Lib.hid hm0
  have HM1 := Lib.hid hm1
  have HF1 := Lib.hid hF1
  have HT3 := Lib.hid t3
  have HT4 := Lib.hid t4
  have HTF := Lib.hid tf
  clear hdo hm0 hm1 hF1 t3 t4 tf
  go_wp2_with fail
  refine HDO1.out.mono ?_
  rintro e w2 ⟨rfl, o2, hF2, hm2, hQ⟩
  go_wp2
  refine leaves_cons (f := 124) (args := #[.pointer (some ⟨w.heap.size + 1, 0, none⟩), .pointer (some ⟨w.heap.size, 0, none⟩)]) (by simp) (by simp [go_sem]) ?_
  have n3c := HM1.out.not (by omega) n3
  have n4c := HM1.out.not (by omega) n4
  have nCc := HM0.out.not (World.block_lt_of_cell? w ⟨C, 0, none⟩ (by rw [Lib.cell_of_heap HFD0.out]; rfl)) hC
  have x3 : ¬ X w.heap.size := fun h => by have := (HX.out _ h).1; omega
  have x4 : ¬ X (w.heap.size + 1) := fun h => by have := (HX.out _ h).1; omega
  have xC : ¬ X C := fun h => (HX.out _ h).2 rfl
  have hs := HM1.out.1.size
  have htot : MvX X o o2 w w2 := (MvX.of HM0.out).trans hm2
  refine (within_end HE.out C d w.heap.size (w.heap.size + 1) ev .returning w2 (L ++ [(ev, false)] ++ M) o2 (hm2.heap HTF.out nCc xC) hF2 (hm2.heap HT3.out n3c x3) (hm2.heap HT4.out n4c x4) (hm2.not (by omega) n4c) ⟨rest, by rw [← HR.out]; simp⟩).mono ?_
  rintro e u' w3 ⟨rfl, rfl, o3, hF3, hm3⟩
  refine ⟨_, results_none rfl _ _ _, rfl, w2, o2, o3, hQ, hm3, ?_, ?_⟩
  ·have e1 : L ++ [(ev, false)] ++ M ++ [({ ev with fin := true }, false)] = L ++ (ev, false) :: (M ++ [({ ev with fin := true }, false)]) := by simp
   rw [e1] at hF3
   exact hF3
  ·refine ⟨htot.1.trans hm3.1 (fun j hj hd => ?_), fun j hj => ?_⟩
   ·rcases hd with hd | hd
    ·exact .inl ((htot.2 j hd).resolve_right (by omega))
    ·omega
   ·rcases hm3.2 j hj with h1 | h1
    ·exact htot.2 j h1
    ·exact .inr (Nat.le_trans htot.1.size h1)
end
end Go.Proofs.YtbioecifiogffabGreatDoor
namespace Go.Proofs.YtbioecifiogffabGreatDoor
open Go.RowKit
theorem trm_len (s : Ln) : (trm s).length ≤ s.length := by
 unfold trm Lib.trimS Lib.trimLeftS Lib.trimRightS
 refine Nat.le_trans (List.dropWhile_sublist _).length_le ?_
 rw [List.length_reverse]
 exact Nat.le_trans (List.dropWhile_sublist _).length_le (by simp)
end Go.Proofs.YtbioecifiogffabGreatDoor
namespace Go.Proofs.YtbioecifiogffabGreatDoor
open Go.RowKit
end Go.Proofs.YtbioecifiogffabGreatDoor
namespace Go.Proofs.YtbioecifiogffabGreatDoor
open Go.RowKit
theorem isItm_blank {s : Ln} (h : isItm s = true) : blank s = false := by
 have b45 : bl 45 = false := by decide
 unfold isItm at h
 split at h
 ·simp [blank, b45]
 ·simp [blank, b45]
 ·cases h
theorem nbl_zero {s : Ln} (t : List Ln) (h : blank s = false) : nbl (s :: t) = 0 := by simp [nbl, h]
theorem lst_item {f : Nat} {s : Ln} {t : List Ln} (h : isItm s = true) : lst (f + 1) (s :: t) = ((s.drop 2 :: (itm t).1) :: (lst f (itm t).2).1, (lst f (itm t).2).2) :=
 lst_go (by rw [nbl_zero t (isItm_blank h)]; rfl) h
def itE (m d : Nat) (x : List Ln) : List EvL := bgE 4 :: (blkF m (d + 1) x ++ [fnE 4])
theorem itm_len (l : List Ln) : (itm l).2.length ≤ l.length := by
 induction l with
 | nil => simp [itm]
 | cons s t ih =>
  unfold itm
  split
  ·split
   ·simp
   ·simp only [List.length_cons]; omega
  ·split
   ·simp only [List.length_cons]; omega
   ·simp
theorem item_tot {s : Ln} {t : List Ln} (h : isItm s = true) : tot (s.drop 2 :: (itm t).1) + tot (itm t).2 + 1 ≤ tot (s :: t) := by
 have h1 := isItm_len h
 have h2 := itm_tot t
 rw [tot_cons, tot_cons]
 omega
end Go.Proofs.YtbioecifiogffabGreatDoor
