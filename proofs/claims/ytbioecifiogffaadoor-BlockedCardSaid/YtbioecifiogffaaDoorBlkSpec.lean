/- The blocks of a text, on lists of lines, with no program in sight. No condition. -/
import Derived.Test.YtbioecifiogffaaDoorInlSpec
import Derived.Lib.SlTrimSet
namespace Go.Proofs.YtbioecifiogffaaDoor

abbrev Ln := List UInt8
/-- A space or a tab. -/
def bl (c : UInt8) : Bool := [(32 : UInt8), 9].contains c
def blank (s : Ln) : Bool := s.all bl
/-- A line without blanks at either end. -/
def trm (s : Ln) : Ln := Lib.trimS s [32, 9]

/-- The lines of a text, behind what stands in the line so far. -/
def lnsA : Ln → List UInt8 → List Ln
  | a, [] => if a = [] then [] else [a]
  | a, c :: t => if c = 10 then a :: lnsA [] t else lnsA (a ++ [c]) t
def lns (s : List UInt8) : List Ln := lnsA [] s

/-- How many signs of a heading stand in front. -/
def hsh : Ln → Nat
  | [] => 0
  | c :: t => if c = 35 then hsh t + 1 else 0
theorem hsh_le (s : Ln) : hsh s ≤ s.length := by
  induction s with
  | nil => simp [hsh]
  | cons c t ih => unfold hsh; split <;> simp <;> omega
/-- A heading's level; 0: it is none. -/
def lvl (s : Ln) : Nat := if hsh s < 1 ∨ 3 < hsh s then 0 else match s.drop (hsh s) with | [] => hsh s | c :: _ => if bl c then hsh s else 0
theorem lvl_le (s : Ln) : lvl s ≤ 3 ∧ (lvl s ≠ 0 → lvl s = hsh s) := by
  unfold lvl
  split
  · simp
  · split
    · exact ⟨by omega, fun _ => rfl⟩
    · split
      · exact ⟨by omega, fun _ => rfl⟩
      · simp
def isFen (s : Ln) : Bool := match s with | 96 :: 96 :: 96 :: _ => true | _ => false
def isQuo (s : Ln) : Bool := match s with | 62 :: _ => true | _ => false
def isItm (s : Ln) : Bool := match s with | 45 :: [] => true | 45 :: c :: _ => bl c | _ => false
def isInd (s : Ln) : Bool := match s with | 32 :: 32 :: _ => true | _ => false
/-- What begins with a line: 2 fenced code, 3 a heading, 4 a quote, 5 a list; 0 nothing. -/
def sta (s : Ln) (d : Nat) : Nat :=
  if isFen s then 2 else if 0 < lvl s then 3 else if isQuo s && decide (d < 3) then 4 else if isItm s && decide (d < 3) then 5 else 0

/-- Fenced code: its text, and what follows. -/
def fnc : List Ln → List UInt8 × List Ln
  | [] => ([], [])
  | s :: t => if isFen s && blank (s.drop 3) then ([], t) else (s ++ [10] ++ (fnc t).1, (fnc t).2)
/-- A quote's line within. -/
def unq (s : Ln) : Ln := match s.drop 1 with | 32 :: t => t | t => t
def qtd : List Ln → List Ln × List Ln
  | [] => ([], [])
  | s :: t => if isQuo s then (unq s :: (qtd t).1, (qtd t).2) else ([], s :: t)
/-- What belongs to an item, behind its first line; what follows. -/
def itm : List Ln → List Ln × List Ln
  | [] => ([], [])
  | s :: t =>
    if blank s then (if (itm t).1 = [] then ([], s :: t) else ([] :: (itm t).1, (itm t).2))
    else if isInd s then (s.drop 2 :: (itm t).1, (itm t).2) else ([], s :: t)
/-- Lines behind the blank ones. -/
def skb : List Ln → List Ln
  | [] => []
  | s :: t => if blank s then skb t else s :: t
/-- A paragraph's further lines; what follows. -/
def prg (d : Nat) : List Ln → List Ln × List Ln
  | [] => ([], [])
  | s :: t => if blank s || decide (0 < sta s d) then ([], s :: t) else (trm s :: (prg d t).1, (prg d t).2)
def joinN : List Ln → List UInt8
  | [] => []
  | [s] => s
  | s :: t => s ++ [10] ++ joinN t

/-- How much lines come to: each one more than its length. -/
def tot (l : List Ln) : Nat := (l.map fun s => s.length + 1).sum
theorem tot_nil : tot [] = 0 := rfl
theorem tot_cons (s : Ln) (t : List Ln) : tot (s :: t) = s.length + 1 + tot t := by simp [tot]
theorem tot_append (a b : List Ln) : tot (a ++ b) = tot a + tot b := by simp [tot]
theorem tot_len (l : List Ln) : l.length ≤ tot l := by
  induction l with
  | nil => simp [tot]
  | cons s t ih => rw [tot_cons]; simp; omega

theorem fnc_tot (l : List Ln) : (fnc l).1.length + tot (fnc l).2 ≤ tot l := by
  induction l with
  | nil => simp [fnc, tot]
  | cons s t ih =>
    unfold fnc
    split
    · rw [tot_cons]; simp
    · rw [tot_cons]; simp at ih ⊢; omega
theorem unq_len {s : Ln} (h : isQuo s = true) : (unq s).length + 1 ≤ s.length := by
  unfold isQuo at h
  split at h
  · rename_i t
    unfold unq
    simp only [List.drop_succ_cons, List.drop_zero]
    split
    · simp
    · simp
  · cases h
theorem qtd_tot (l : List Ln) : tot (qtd l).1 + (qtd l).1.length + tot (qtd l).2 ≤ tot l := by
  induction l with
  | nil => simp [qtd, tot]
  | cons s t ih =>
    unfold qtd
    split
    · rename_i h
      have := unq_len h
      simp only [tot_cons, List.length_cons]
      omega
    · simp [tot_nil]
theorem itm_tot (l : List Ln) : tot (itm l).1 + tot (itm l).2 ≤ tot l := by
  induction l with
  | nil => simp [itm, tot]
  | cons s t ih =>
    unfold itm
    split
    · split
      · simp [tot_nil]
      · simp only [tot_cons, List.length_nil]; omega
    · split
      · simp only [tot_cons, List.length_drop]; omega
      · simp [tot_nil]
theorem skb_tot (l : List Ln) : tot (skb l) ≤ tot l := by
  induction l with
  | nil => simp [skb]
  | cons s t ih =>
    unfold skb
    split
    · rw [tot_cons]; omega
    · exact Nat.le_refl _
theorem prg_tot (d : Nat) (l : List Ln) : tot (prg d l).1 + tot (prg d l).2 ≤ tot l := by
  induction l with
  | nil => simp [prg, tot]
  | cons s t ih =>
    unfold prg
    split
    · simp [tot_nil]
    · have h : (trm s).length ≤ s.length := by
        unfold trm Lib.trimS Lib.trimLeftS Lib.trimRightS
        refine Nat.le_trans (List.dropWhile_sublist _).length_le ?_
        rw [List.length_reverse]
        exact Nat.le_trans (List.dropWhile_sublist _).length_le (by simp)
      simp only [tot_cons]
      omega

/-- The items of a list: the lines of each; what follows. -/
def lst : Nat → List Ln → List (List Ln) × List Ln
  | 0, l => ([], l)
  | n + 1, l =>
    match skb l with
    | [] => ([], l)
    | s :: t => if isItm s then ((s.drop 2 :: (itm t).1) :: (lst n (itm t).2).1, (lst n (itm t).2).2) else ([], l)

/-- How many blank lines stand in front. -/
def nbl : List Ln → Nat
  | [] => 0
  | s :: t => if blank s then nbl t + 1 else 0
theorem nbl_le (l : List Ln) : nbl l ≤ l.length := by
  induction l with
  | nil => simp [nbl]
  | cons s t ih => unfold nbl; split <;> simp <;> omega
theorem nbl_skb (l : List Ln) : l.drop (nbl l) = skb l := by
  induction l with
  | nil => rfl
  | cons s t ih =>
    unfold nbl skb
    split
    · simpa using ih
    · rfl
theorem nbl_lt {l : List Ln} {j : Nat} {s : Ln} (h : l[j]? = some s) (hj : j < nbl l) : blank s = true := by
  induction l generalizing j with
  | nil => simp at h
  | cons x t ih =>
    unfold nbl at hj
    split at hj
    · rename_i hb
      cases j with
      | zero => simp at h; rw [← h]; exact hb
      | succ j => exact ih (by simpa using h) (by omega)
    · omega
theorem nbl_stop {l : List Ln} {s : Ln} {t : List Ln} (h : l.drop (nbl l) = s :: t) : blank s = false := by
  induction l with
  | nil => simp at h
  | cons x r ih =>
    unfold nbl at h
    split at h
    · exact ih (by simpa using h)
    · rename_i hb
      simp at h
      rw [← h.1]
      simpa using hb
theorem itm_end {l : List Ln} (h : l.drop (nbl l) = []) : itm l = ([], l) := by
  induction l with
  | nil => rfl
  | cons x r ih =>
    unfold nbl at h
    split at h
    · rename_i hb
      have := ih (by simpa using h)
      unfold itm
      rw [if_pos hb, this]
      rfl
    · simp at h
theorem itm_stop {l : List Ln} {s : Ln} {t : List Ln} (h : l.drop (nbl l) = s :: t) (hi : isInd s = false) : itm l = ([], l) := by
  induction l with
  | nil => simp at h
  | cons x r ih =>
    have hs := nbl_stop h
    unfold nbl at h
    split at h
    · rename_i hb
      have := ih (by simpa using h)
      unfold itm
      rw [if_pos hb, this]
      rfl
    · rename_i hb
      simp at h
      obtain ⟨rfl, rfl⟩ := h
      unfold itm
      rw [if_neg hb, if_neg (by rw [hi]; decide)]
theorem itm_go {l : List Ln} {s : Ln} {t : List Ln} (h : l.drop (nbl l) = s :: t) (hi : isInd s = true) : itm l = (List.replicate (nbl l) [] ++ (s.drop 2 :: (itm t).1), (itm t).2) := by
  induction l with
  | nil => simp at h
  | cons x r ih =>
    have hs := nbl_stop h
    by_cases hb : blank x
    · have e : nbl (x :: r) = nbl r + 1 := by simp [nbl, hb]
      rw [e] at h ⊢
      have := ih (by simpa using h)
      conv => lhs; unfold itm
      rw [if_pos hb, this]
      simp [List.replicate_succ]
    · have e : nbl (x :: r) = 0 := by simp [nbl, hb]
      rw [e] at h ⊢
      simp at h
      obtain ⟨rfl, rfl⟩ := h
      conv => lhs; unfold itm
      rw [if_neg hb, if_pos hi]
      simp
theorem lst_stop {n : Nat} {l : List Ln} (h : l.drop (nbl l) = [] ∨ ∃ s t, l.drop (nbl l) = s :: t ∧ isItm s = false) : lst n l = ([], l) := by
  cases n with
  | zero => rfl
  | succ n =>
    unfold lst
    rw [← nbl_skb]
    rcases h with h | ⟨s, t, h, hi⟩
    · rw [h]
    · rw [h]
      simp [hi]
theorem lst_go {n : Nat} {l : List Ln} {s : Ln} {t : List Ln} (h : l.drop (nbl l) = s :: t) (hi : isItm s = true) : lst (n + 1) l = ((s.drop 2 :: (itm t).1) :: (lst n (itm t).2).1, (lst n (itm t).2).2) := by
  conv => lhs; unfold lst
  rw [← nbl_skb, h]
  simp [hi]
theorem tot_drop (l : List Ln) (k : Nat) : tot (l.drop k) ≤ tot l := by
  induction l generalizing k with
  | nil => simp
  | cons s t ih =>
    cases k with
    | zero => simp
    | succ k => have := ih k; rw [tot_cons]; simp; omega

/-- An event, and whether its text is a leaf's. -/
abbrev EvL := Ev × Bool
def bgE (k : Int) : EvL := (⟨k, false, 0, []⟩, false)
def fnE (k : Int) : EvL := (⟨k, true, 0, []⟩, false)
def txE (x : List UInt8) (lf : Bool) : List EvL := if x = [] then [] else [(⟨8, false, 0, x⟩, lf)]
def leafE (k lv : Int) (x : List UInt8) (lf : Bool) : List EvL := (⟨k, false, lv, []⟩, false) :: (txE x lf ++ [(⟨k, true, lv, []⟩, false)])

/-- The blocks of some lines, at a depth. -/
def blkF : Nat → Nat → List Ln → List EvL
  | 0, _, _ => []
  | _ + 1, _, [] => []
  | n + 1, d, s :: t =>
    if blank s then blkF n d t
    else if sta s d = 2 then leafE 5 0 (fnc t).1 false ++ blkF n d (fnc t).2
    else if sta s d = 3 then leafE 1 (lvl s) (trm (s.drop (lvl s))) true ++ blkF n d t
    else if sta s d = 4 then bgE 2 :: (blkF n (d + 1) (qtd (s :: t)).1 ++ fnE 2 :: blkF n d (qtd (s :: t)).2)
    else if sta s d = 5 then bgE 3 :: ((lst n (s :: t)).1.flatMap (fun l => bgE 4 :: (blkF n (d + 1) l ++ [fnE 4])) ++ fnE 3 :: blkF n d (lst n (s :: t)).2)
    else leafE 0 0 (joinN (trm s :: (prg d t).1)) true ++ blkF n d (prg d t).2
end Go.Proofs.YtbioecifiogffaaDoor
