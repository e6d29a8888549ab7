/- blocks.empty, heading, item, what, Lines: what they give. Condition: no more than 2^24 bytes. -/
import Derived.Test.YtbioecifiogffaaDoorBlkRef6
import Derived.Test.YtbioecifiogffaaDoorBlkLib
import Derived.Test.YtbioecifiogffaaDoorScan
import Derived.Test.YtbioecifiogffaaDoorShelf
import Derived.Shelf.Strings.SlTrimAscii
import Derived.BigQuiet
import Derived.Deep.QuietTactic
namespace Go.Proofs.YtbioecifiogffaaDoor
open Go.RowKit

theorem setZero (w : World) : (zeroValue 173).run Tryd.prog w = .ok (.agg (Array.replicate 256 (.bool false))) w := by kernel_rfl
theorem setSize : (Tryd.prog.info? 173).map (·.size) = some 256 := by kernel_rfl
/-- strings.Trim of blanks. -/
theorem pTrim_any (s : ByteArray) (w : World) (hs : s.size ≤ 9223372036854775807) : Calls Tryd.prog 86 #[.string s, .string ⟨#[32, 9]⟩] w fun e w' => e = .returned (.string ⟨(trm s.data.toList).toArray⟩) ∧ Fresh w w' :=
  (Any.strings_Trim_ascii Tryd.lays160 setZero setSize s ⟨#[32, 9]⟩ w hs (by decide) (by
    intro j b hj
    match j, hj with
    | 0, hj => simp at hj; subst hj; decide
    | 1, hj => simp at hj; subst hj; decide)).mono fun _ _ ⟨h1, h2⟩ => ⟨h1, Fresh.of h2⟩

theorem dropWhile_nil (p : UInt8 → Bool) (l : List UInt8) : l.dropWhile p = [] ↔ l.all p = true := by
  induction l with
  | nil => simp
  | cons c t ih =>
    rw [List.dropWhile_cons]
    split
    · rename_i h; simp [h, ih]
    · rename_i h; simp [h]
theorem trm_blank (s : Ln) : trm s = [] ↔ blank s = true := by
  unfold trm Lib.trimS Lib.trimLeftS Lib.trimRightS blank
  rw [dropWhile_nil]
  have e : ∀ l : List UInt8, (l.dropWhile (([32, 9] : List UInt8).contains ·)).all (([32, 9] : List UInt8).contains ·) = l.all bl := by
    intro l
    induction l with
    | nil => rfl
    | cons c t ih =>
      rw [List.dropWhile_cons]
      split
      · rename_i h; rw [ih, List.all_cons]; unfold bl; rw [h]; rfl
      · rfl
  rw [List.all_reverse, e, List.all_reverse]

set_option maxHeartbeats 1000000 in
set_option maxRecDepth 100000 in
theorem empty_any (s : ByteArray) (w : World) (hs : s.size ≤ 9223372036854775807) : Calls Tryd.prog 72 #[.string s] w fun e w' => e = .returned (.bool (blank s.data.toList)) ∧ Fresh w w' := by
  have ht := pTrim_any s w hs
  obtain ⟨A, hA, hAl, hAs⟩ := mk_of (trm s.data.toList)
  rw [hA] at ht
  have hb : A.toList.isEmpty = blank s.data.toList := by
    rw [str_empty, hAl, Bool.eq_iff_iff, decide_eq_true_iff]
    exact trm_blank _
  generalize blank s.data.toList = B at *
  have HT := Lib.hid ht
  have HB := Lib.hid hb
  clear ht hA hAl hAs hb
  go_enter Tryd.func72, Tryd.ntmps72
  go_wp2_with fail
  refine HT.out.mono ?_
  rintro e w2 ⟨rfl, hk2⟩
  have HK2 := Lib.hid hk2
  clear hk2
  go_wp2
  go_ret
  exact ⟨by rw [← HB.out]; rfl, HK2.out⟩

theorem bl_index (c : UInt8) : decide (0 ≤ Lib.indexByte [32, 9] c) = bl c := by
  have h : ∀ n : Fin 256, decide (0 ≤ Lib.indexByte [32, 9] (UInt8.ofNat n.val)) = bl (UInt8.ofNat n.val) := by decide +kernel
  have := h ⟨c.toNat, c.toNat_lt⟩
  simpa using this
theorem hsh_trim (s : Ln) : Lib.trimLeftB s 35 = s.drop (hsh s) := by
  unfold Lib.trimLeftB
  induction s with
  | nil => rfl
  | cons c t ih =>
    rw [List.dropWhile_cons]
    by_cases h : c = 35
    · subst h
      simp [hsh, ih]
    · have : (c == 35) = false := by simpa using h
      rw [this]
      simp [hsh, h]
/-- Nothing or a blank stands here. -/
def hdB : Ln → Bool
  | [] => true
  | c :: _ => bl c
/-- Is there a heading? -/
theorem lvl_ok (s : Ln) : decide (0 < lvl s) = (decide (1 ≤ hsh s) && decide (hsh s ≤ 3) && hdB (s.drop (hsh s))) := by
  unfold lvl
  by_cases h : hsh s < 1 ∨ 3 < hsh s
  · rw [if_pos h]
    rcases h with h | h
    · have : decide (1 ≤ hsh s) = false := by simp; omega
      simp [this]
    · have : decide (hsh s ≤ 3) = false := by simp; omega
      simp [this]
  · rw [if_neg h]
    have h1 : decide (1 ≤ hsh s) = true := by simp; omega
    have h2 : decide (hsh s ≤ 3) = true := by simp; omega
    rw [h1, h2]
    cases hd : s.drop (hsh s) with
    | nil =>
      have h3 : decide (0 < hsh s) = true := by simp; omega
      simp [h3, hdB]
    | cons c t =>
      have h3 : decide (0 < hsh s) = true := by simp; omega
      by_cases hb : bl c = true
      · simp [h3, hb, hdB]
      · simp [hb, hdB]

set_option maxHeartbeats 2000000 in
set_option maxRecDepth 100000 in
theorem heading_any (s : ByteArray) (w : World) (hs : s.size ≤ 16777216) : Calls Tryd.prog 88 #[.string s] w fun e w' => e = .returned (.tuple #[.int .i64 (hsh s.data.toList : Nat), .string ⟨(trm (s.data.toList.drop (hsh s.data.toList))).toArray⟩, .bool (decide (0 < lvl s.data.toList))]) ∧ Fresh w w' := by
  have htl := fun W : World => Tryd.strings_TrimLeft_one s 35 (by decide) W
  rw [hsh_trim] at htl
  have hle := hsh_le s.data.toList
  rw [show s.data.toList.length = s.size by simp] at hle
  rw [lvl_ok]
  obtain ⟨n, hn⟩ : ∃ n, hsh s.data.toList = n := ⟨_, rfl⟩
  rw [hn] at htl hle ⊢
  obtain ⟨R, hR⟩ : ∃ R, s.data.toList.drop n = R := ⟨_, rfl⟩
  rw [hR] at htl ⊢
  obtain ⟨A, hA, hAl, hAs⟩ := mk_of R
  rw [hA] at htl
  have hRl : R.length = s.size - n := by rw [← hR]; simp
  have htr := fun W : World => pTrim_any A W (by omega)
  rw [hAl] at htr
  have hA1 : (A.size : Int) = (s.size : Int) - (n : Int) := by omega
  have hAle : A.size ≤ s.size := by omega
  have hAE := str_empty A
  rw [hAl] at hAE
  have hsub : (s.size : Int) - (A.size : Int) = (n : Int) := by omega
  have HTL := Lib.hid htl
  have HTR := Lib.hid htr
  have HAL := Lib.hid hAl
  clear hn hR hA hAs hA1 hRl htl htr
  by_cases hlo : 1 ≤ n ∧ n ≤ 3
  · obtain ⟨h1, h3⟩ := hlo
    have d1 : decide (1 ≤ n) = true := by simpa using h1
    have d3 : decide (n ≤ 3) = true := by simpa using h3
    have i1 : (1 : Int) ≤ (n : Int) := by omega
    have i3 : (n : Int) ≤ 3 := by omega
    rw [d1, d3]
    cases R with
    | nil =>
      have hA0 : A.toList = [] := by rw [ByteArray.toList_eq]; exact hAl
      have hAE2 : A.toList.isEmpty = true := by rw [hA0]; rfl
      clear hAE hA0 hAl d1 d3 h1 h3
      go_enter Tryd.func88, Tryd.ntmps88
      go_wp2_with fail
      refine (HTL.out _).mono ?_
      rintro e w2 ⟨rfl, rfl⟩
      go_wp2_with fail
      refine (HTR.out _).mono ?_
      rintro e w3 ⟨rfl, hk3⟩
      have HK3 := Lib.hid hk3
      clear hk3
      go_wp2
      go_ret3
      exact ⟨rfl, HK3.out⟩
    | cons c t =>
      have hA0 : 0 < A.size := by
        have := congrArg List.length hAl
        simp at this
        omega
      have hAc : A[0]'hA0 = c := by
        have := drop_lt hA0
        rw [List.drop_zero, hAl] at this
        injection this with h _
        exact h.symm
      have hAE2 : A.toList.isEmpty = false := by rw [ByteArray.toList_eq, hAl]; rfl
      have hAE3 : ¬ A.toList = [] := by rw [ByteArray.toList_eq, hAl]; simp
      have hAi : (0 : Int) < (A.size : Int) := by omega
      have hix := fun W : World => Tryd.strings_IndexByte ⟨#[32, 9]⟩ (c.toNat : Int) W
      have hbl := bl_index c
      have hce : (c.toNat : Int).toNat.toUInt8 = c := by simp
      rw [hce, show (⟨#[32, 9]⟩ : ByteArray).data.toList = [32, 9] from rfl] at hix
      generalize Lib.indexByte [32, 9] c = x at *
      have hd : hdB (c :: t) = decide (0 ≤ x) := hbl.symm
      rw [hd]
      have HIX := Lib.hid hix
      clear hAE hAl d1 d3 h1 h3 hix hbl hce hd
      go_enter Tryd.func88, Tryd.ntmps88
      go_wp2_with fail
      refine (HTL.out _).mono ?_
      rintro e w2 ⟨rfl, rfl⟩
      go_wp2_with fail
      refine (HIX.out _).mono ?_
      rintro e w3 ⟨rfl, rfl⟩
      go_wp2_with fail
      refine (HTR.out _).mono ?_
      rintro e w3 ⟨rfl, hk3⟩
      have HK3 := Lib.hid hk3
      clear hk3
      go_wp2
      go_ret3
      exact ⟨rfl, HK3.out⟩
  · rcases (show n < 1 ∨ 3 < n by omega) with h | h
    · have d1 : decide (1 ≤ n) = false := by simp; omega
      have i1 : ¬ (1 : Int) ≤ (n : Int) := by omega
      rw [d1]
      clear hAE d1 h hlo
      go_enter Tryd.func88, Tryd.ntmps88
      go_wp2_with fail
      refine (HTL.out _).mono ?_
      rintro e w2 ⟨rfl, rfl⟩
      go_wp2_with fail
      refine (HTR.out _).mono ?_
      rintro e w3 ⟨rfl, hk3⟩
      have HK3 := Lib.hid hk3
      clear hk3
      go_wp2
      go_ret3
      exact ⟨rfl, HK3.out⟩
    · have d1 : decide (1 ≤ n) = true := by simp; omega
      have d3 : decide (n ≤ 3) = false := by simp; omega
      have i1 : (1 : Int) ≤ (n : Int) := by omega
      have i3 : ¬ (n : Int) ≤ 3 := by omega
      rw [d1, d3]
      clear hAE d1 d3 h hlo
      go_enter Tryd.func88, Tryd.ntmps88
      go_wp2_with fail
      refine (HTL.out _).mono ?_
      rintro e w2 ⟨rfl, rfl⟩
      go_wp2_with fail
      refine (HTR.out _).mono ?_
      rintro e w3 ⟨rfl, hk3⟩
      have HK3 := Lib.hid hk3
      clear hk3
      go_wp2
      go_ret3
      exact ⟨rfl, HK3.out⟩

theorem itm_cases (s : Ln) : (s = [45] ∧ isItm s = true) ∨ (∃ c t, s = 45 :: c :: t ∧ isItm s = bl c) ∨ (Lib.hasPrefix s [45] = false ∧ isItm s = false) := by
  cases s with
  | nil => exact .inr (.inr ⟨rfl, rfl⟩)
  | cons x t =>
    by_cases hx : x = 45
    · subst hx
      cases t with
      | nil => exact .inl ⟨rfl, rfl⟩
      | cons c t => exact .inr (.inl ⟨c, t, rfl, rfl⟩)
    · refine .inr (.inr ⟨?_, ?_⟩)
      · unfold Lib.hasPrefix
        have h2 : ¬ 45 = x := fun e => hx e.symm
        simp [List.isPrefixOf, h2]
      · unfold isItm
        split
        · rename_i h; injection h with h _; exact absurd h hx
        · rename_i h; injection h with h _; exact absurd h hx
        · rfl

/-- What item gives. -/
def ItmIs (s : Ln) (w : World) (e : Ending) (w' : World) : Prop := ∃ x : ByteArray, e = .returned (.tuple #[.string x, .bool (isItm s)]) ∧ (isItm s = true → x.data.toList = s.drop 2) ∧ Fresh w w'
set_option maxHeartbeats 2000000 in
set_option maxRecDepth 100000 in
theorem item_any (s : ByteArray) (w : World) (hs : s.size ≤ 16777216) : Calls Tryd.prog 91 #[.string s] w (ItmIs s.data.toList w) := by
  have hcp := fun W : World => Tryd.strings_CutPrefix s ⟨#[45]⟩ W
  rw [show (⟨#[45]⟩ : ByteArray).data.toList = [45] from rfl] at hcp
  obtain ⟨A, hA, hAl, hAs⟩ := mk_of (Lib.trimPrefix s.data.toList [45])
  rw [hA] at hcp
  rcases itm_cases s.data.toList with ⟨h1, hi⟩ | ⟨c, t, h1, hi⟩ | ⟨h1, hi⟩
  · have hp : Lib.hasPrefix s.data.toList [45] = true := by rw [h1]; decide
    have ht : Lib.trimPrefix s.data.toList [45] = [] := by rw [h1]; decide
    rw [ht] at hAl
    rw [hp] at hcp
    have hA0 : A.toList = [] := by rw [ByteArray.toList_eq]; exact hAl
    have hAE2 : A.toList.isEmpty = true := by rw [hA0]; rfl
    have hd : ([] : List UInt8) = s.data.toList.drop 2 := by rw [h1]; rfl
    generalize s.data.toList = L at *
    have HCP := Lib.hid hcp
    have HD := Lib.hid hd
    have HI := Lib.hid hi
    clear hp ht hA hAl hAs h1 hcp hA0 hd hi
    go_enter Tryd.func91, Tryd.ntmps91
    go_wp2_with fail
    refine (HCP.out _).mono ?_
    rintro e w2 ⟨rfl, rfl⟩
    go_wp2
    go_ret2
    exact ⟨_, by rw [HI.out]; rfl, fun _ => HD.out, Keeps.refl _ _⟩
  · have hp : Lib.hasPrefix s.data.toList [45] = true := by rw [h1]; unfold Lib.hasPrefix; simp
    have ht : Lib.trimPrefix s.data.toList [45] = c :: t := by unfold Lib.trimPrefix; rw [hp, h1]; simp
    rw [ht] at hAl
    rw [hp] at hcp
    have hA0 : 0 < A.size := by
      have := congrArg List.length hAl
      simp at this
      omega
    have hAc : A[0]'hA0 = c := by
      have := drop_lt hA0
      rw [List.drop_zero, hAl] at this
      injection this with h _
      exact h.symm
    have hAle : A.size ≤ s.size := by
      have h2 := congrArg List.length hAl
      have h3 := congrArg List.length h1
      simp at h2 h3
      omega
    have hAE2 : A.toList.isEmpty = false := by rw [ByteArray.toList_eq, hAl]; rfl
    have hAE3 : ¬ A.toList = [] := by rw [ByteArray.toList_eq, hAl]; simp
    have hAi : (0 : Int) < (A.size : Int) := by omega
    have hA1 : (1 : Int) ≤ (A.size : Int) := by omega
    have hix := fun W : World => Tryd.strings_IndexByte ⟨#[32, 9]⟩ (c.toNat : Int) W
    have hbl := bl_index c
    have hce : (c.toNat : Int).toNat.toUInt8 = c := by simp
    rw [hce, show (⟨#[32, 9]⟩ : ByteArray).data.toList = [32, 9] from rfl] at hix
    rw [← hi] at hbl
    generalize Lib.indexByte [32, 9] c = x at *
    have hd : (A.extract 1 A.size).data.toList = s.data.toList.drop 2 := by rw [rest_list, hAl, h1]; rfl
    generalize s.data.toList = L at *
    have HCP := Lib.hid hcp
    have HD := Lib.hid hd
    have HI := Lib.hid hbl
    have HIX := Lib.hid hix
    clear hp ht hA hAl hAs h1 hcp hd hi hbl hce hix
    go_enter Tryd.func91, Tryd.ntmps91
    go_wp2_with fail
    refine (HCP.out _).mono ?_
    rintro e w2 ⟨rfl, rfl⟩
    go_wp2
    go_quiet ((go_at_call 98; exact Calls.quiet_of_same (HIX.out _)))
    go_wp2
    go_ret2
    exact ⟨_, by rw [← HI.out]; rfl, fun _ => HD.out, (Keeps.refl _ _).drewN _⟩
  · rw [h1] at hcp
    generalize s.data.toList = L at *
    have HCP := Lib.hid hcp
    have HI := Lib.hid hi
    clear hA hAl hAs h1 hcp hi
    go_enter Tryd.func91, Tryd.ntmps91
    go_wp2_with fail
    refine (HCP.out _).mono ?_
    rintro e w2 ⟨rfl, rfl⟩
    go_wp2
    go_ret2
    exact ⟨_, by rw [HI.out]; rfl, (fun h => by rw [HI.out] at h; cases h), Keeps.refl _ _⟩

/-- The function that finds what begins with a line. -/
def whatV (k : Nat) : Value :=
  if k = 2 then .func (.func 87) #[] #[]
  else if k = 3 then .func (.func 89) #[] #[]
  else if k = 4 then .func (.func 90) #[] #[]
  else if k = 5 then .func (.func 92) #[] #[]
  else .nilFunc
/-- Block C is a finder that tells by fv, at depth d. -/
def Fnd (w : World) (C : Nat) (fv : Value) (d : Nat) : Prop := w.heap[C]? = some (.cells #[fv, .int .i64 d] 124 (0, 0))
theorem Fnd.fresh {w w' : World} {C d : Nat} {fv : Value} (h : Fnd w C fv d) (hk : Fresh w w') : Fnd w' C fv d := hk.heap_some h (fun h => h)
theorem Fnd.cells {w : World} {C d : Nat} {fv : Value} (h : Fnd w C fv d) : w.cell? ⟨C, 0, none⟩ = some fv ∧ w.cell? ⟨C, 1, none⟩ = some (.int .i64 d) :=
  ⟨by rw [Lib.cell_of_heap h]; rfl, by rw [Lib.cell_of_heap h]; rfl⟩

set_option maxHeartbeats 2000000 in
set_option maxRecDepth 100000 in
theorem what_any (C d : Nat) (fv : Value) (s : ByteArray) (w : World) (h : Fnd w C fv d) (hs : s.size ≤ 16777216) (hd : d ≤ 3) :
    Calls Tryd.prog 73 #[.pointer (some ⟨C, 0, none⟩), .string s] w fun e w' => e = .returned (whatV (sta s.data.toList d)) ∧ Fresh w w' := by
  have hpf := fun W : World => Tryd.strings_HasPrefix s ⟨#[96, 96, 96]⟩ W
  rw [show (⟨#[96, 96, 96]⟩ : ByteArray).data.toList = [96, 96, 96] from rfl, isFen_pre] at hpf
  have hpq := fun W : World => Tryd.strings_HasPrefix s ⟨#[62]⟩ W
  rw [show (⟨#[62]⟩ : ByteArray).data.toList = [62] from rfl, isQuo_pre] at hpq
  have hhd := fun W : World => heading_any s W hs
  have hit := fun W : World => item_any s W hs
  obtain ⟨k, hk⟩ : ∃ k, sta s.data.toList d = k := ⟨_, rfl⟩
  rw [hk]
  unfold sta at hk
  unfold ItmIs at hit
  generalize hsh s.data.toList = hn at *
  generalize trm (s.data.toList.drop hn) = tr at *
  generalize lvl s.data.toList = lv at *
  generalize isFen s.data.toList = b2 at *
  generalize isQuo s.data.toList = b4 at *
  generalize isItm s.data.toList = b5 at *
  have HPF := Lib.hid hpf
  have HPQ := Lib.hid hpq
  have HHD := Lib.hid hhd
  have HIT := Lib.hid hit
  have H := Lib.hid h
  clear hpf hpq hhd hit h
  cases b2 with
  | true =>
    have hk2 : k = 2 := by rw [← hk]; rfl
    subst hk2
    clear hk
    go_enter Tryd.func73, Tryd.ntmps73
    go_wp2_with fail
    refine (HPF.out _).mono ?_
    rintro e w2 ⟨rfl, rfl⟩
    go_wp2
    go_ret
    exact ⟨rfl, Keeps.refl _ _⟩
  | false =>
    by_cases hl : 0 < lv
    · have hk2 : k = 3 := by rw [← hk]; simp [hl]
      subst hk2
      have hdl : decide (0 < lv) = true := by simpa using hl
      rw [hdl] at HHD
      clear hk hl hdl
      go_enter Tryd.func73, Tryd.ntmps73
      go_wp2_with fail
      refine (HPF.out _).mono ?_
      rintro e w2 ⟨rfl, rfl⟩
      go_wp2_with fail
      refine (HHD.out _).mono ?_
      rintro e w3 ⟨rfl, hk3⟩
      have HK3 := Lib.hid hk3
      clear hk3
      go_wp2
      go_ret
      exact ⟨rfl, HK3.out⟩
    · have hdl : decide (0 < lv) = false := by simpa using hl
      rw [hdl] at HHD
      rw [if_neg (by decide), if_neg hl] at hk
      by_cases hd3 : d = 3
      · subst hd3
        have hk2 : k = 0 := by rw [← hk]; simp
        subst hk2
        clear hk hl hdl
        go_enter Tryd.func73, Tryd.ntmps73
        go_wp2_with fail
        refine (HPF.out _).mono ?_
        rintro e w2 ⟨rfl, rfl⟩
        go_wp2_with fail
        refine (HHD.out _).mono ?_
        rintro e w3 ⟨rfl, hk3⟩
        have c1 : w3.cell? ⟨C, 1, none⟩ = some (.int .i64 3) := (H.out.fresh hk3).cells.2
        have HK3 := Lib.hid hk3
        clear hk3
        go_wp2
        go_ret
        exact ⟨rfl, HK3.out⟩
      · have hde : ((d : Int) == 3) = false := by rw [beq_eq_false_iff_ne]; omega
        have hdd : decide (d < 3) = true := by simp; omega
        rw [hdd] at hk
        simp only [Bool.and_true] at hk
        cases b4 with
        | true =>
          have hk2 : k = 4 := by rw [← hk]; rfl
          subst hk2
          clear hk hl hdl hdd hd3
          go_enter Tryd.func73, Tryd.ntmps73
          go_wp2_with fail
          refine (HPF.out _).mono ?_
          rintro e w2 ⟨rfl, rfl⟩
          go_wp2_with fail
          refine (HHD.out _).mono ?_
          rintro e w3 ⟨rfl, hk3⟩
          have c1 : w3.cell? ⟨C, 1, none⟩ = some (.int .i64 d) := (H.out.fresh hk3).cells.2
          have HK3 := Lib.hid hk3
          clear hk3
          go_wp2_with fail
          refine (HPQ.out _).mono ?_
          rintro e w4 ⟨rfl, rfl⟩
          go_wp2
          go_ret
          exact ⟨rfl, HK3.out⟩
        | false =>
          have hk2 : k = if b5 = true then 5 else 0 := by rw [← hk]; rfl
          subst hk2
          clear hk hl hdl hdd hd3
          go_enter Tryd.func73, Tryd.ntmps73
          go_wp2_with fail
          refine (HPF.out _).mono ?_
          rintro e w2 ⟨rfl, rfl⟩
          go_wp2_with fail
          refine (HHD.out _).mono ?_
          rintro e w3 ⟨rfl, hk3⟩
          have c1 : w3.cell? ⟨C, 1, none⟩ = some (.int .i64 d) := (H.out.fresh hk3).cells.2
          have HK3 := Lib.hid hk3
          clear hk3
          go_wp2_with fail
          refine (HPQ.out _).mono ?_
          rintro e w4 ⟨rfl, rfl⟩
          go_wp2_with fail
          refine (HIT.out _).mono ?_
          rintro e w5 ⟨x, rfl, -, hk5⟩
          have HK5 := Lib.hid (HK3.out.tr hk5)
          clear hk5
          cases b5
          · go_wp2
            go_ret
            exact ⟨rfl, HK5.out⟩
          · go_wp2
            go_ret
            exact ⟨rfl, HK5.out⟩
end Go.Proofs.YtbioecifiogffaaDoor
