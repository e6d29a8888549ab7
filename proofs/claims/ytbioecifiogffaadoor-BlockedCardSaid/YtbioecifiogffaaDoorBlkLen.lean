/- Plain: how many events the blocks of some lines come to. No condition. -/
import Derived.Test.YtbioecifiogffaaDoorBlkSpec
namespace Go.Proofs.YtbioecifiogffaaDoor

theorem isItm_len {s : Ln} (h : isItm s = true) : (s.drop 2).length + 1 ≤ s.length := by
  unfold isItm at h
  split at h
  · simp
  · simp
  · cases h
theorem leafE_len (k lv : Int) (x : List UInt8) (lf : Bool) : (leafE k lv x lf).length ≤ 3 := by
  unfold leafE txE
  split <;> simp
theorem lst_sum (n : Nat) (l : List Ln) : ((lst n l).1.map (fun x => 4 * tot x + 4)).sum + 4 * tot (lst n l).2 ≤ 4 * tot l := by
  induction n generalizing l with
  | zero => simp [lst]
  | succ n ih =>
    unfold lst
    have hs := skb_tot l
    split
    · simp
    · rename_i s t e
      rw [e, tot_cons] at hs
      split
      · rename_i hi
        have h1 := isItm_len hi
        have h2 := itm_tot t
        have h3 := ih (itm t).2
        simp only [List.map_cons, List.sum_cons, tot_cons]
        omega
      · simp
theorem flat_len {α β : Type} (f : α → List β) (m : α → Nat) (h : ∀ a, (f a).length ≤ m a) (l : List α) : (l.flatMap f).length ≤ (l.map m).sum := by
  induction l with
  | nil => simp
  | cons a r ih =>
    rw [List.flatMap_cons, List.length_append, List.map_cons, List.sum_cons]
    have := h a
    omega
theorem sum_less {α : Type} (l : List α) (f : α → Nat) (h : l ≠ []) : (l.map fun x => f x + 2).sum + 2 ≤ (l.map fun x => f x + 4).sum := by
  induction l with
  | nil => exact absurd rfl h
  | cons a r ih =>
    simp only [List.map_cons, List.sum_cons]
    by_cases hr : r = []
    · subst hr; simp
    · have := ih hr
      omega
theorem lst_ne {n : Nat} {s : Ln} {t : List Ln} (hb : blank s = false) (hi : isItm s = true) : (lst (n + 1) (s :: t)).1 ≠ [] := by
  have h : (s :: t).drop (nbl (s :: t)) = s :: t := by simp [nbl, hb]
  rw [lst_go h hi]
  simp
theorem sta_five {s : Ln} {d : Nat} (h : sta s d = 5) : isItm s = true ∧ d < 3 := by
  unfold sta at h
  split at h
  · cases h
  · split at h
    · cases h
    · split at h
      · cases h
      · split at h
        · rename_i h1
          simpa using h1
        · cases h
theorem sta_four {s : Ln} {d : Nat} (h : sta s d = 4) : isQuo s = true ∧ d < 3 := by
  unfold sta at h
  split at h
  · cases h
  · split at h
    · cases h
    · split at h
      · rename_i h1
        simpa using h1
      · split at h <;> cases h
theorem sta_three {s : Ln} {d : Nat} (h : sta s d = 3) : 1 ≤ lvl s ∧ lvl s ≤ 3 := by
  unfold sta at h
  split at h
  · cases h
  · split at h
    · rename_i h1
      exact ⟨h1, (lvl_le s).1⟩
    · split at h
      · cases h
      · split at h <;> cases h

theorem blkF_len (n : Nat) : ∀ (d : Nat) (l : List Ln), (blkF n d l).length ≤ 4 * tot l := by
  induction n using Nat.strongRecOn with
  | ind n ih =>
  intro d l
  cases n with
  | zero => simp [blkF]
  | succ n =>
    cases l with
    | nil => simp [blkF]
    | cons s t =>
      have ih := ih n (Nat.lt_succ_self n)
      unfold blkF
      rw [tot_cons]
      split
      · have := ih d t; omega
      · rename_i hb
        split
        · have h1 := ih d (fnc t).2
          have h2 := fnc_tot t
          have h3 := leafE_len 5 0 (fnc t).1 false
          rw [List.length_append]
          omega
        · split
          · have h1 := ih d t
            have h3 := leafE_len 1 (lvl s) (trm (s.drop (lvl s))) true
            rw [List.length_append]
            omega
          · split
            · rename_i h4
              have hq := (sta_four h4).1
              have h1 := ih (d + 1) (qtd (s :: t)).1
              have h2 := ih d (qtd (s :: t)).2
              have h3 := qtd_tot (s :: t)
              have h5 : 1 ≤ (qtd (s :: t)).1.length := by simp [qtd, hq]
              rw [tot_cons] at h3
              simp only [List.length_cons, List.length_append]
              omega
            · split
              · rename_i h5
                obtain ⟨hi, -⟩ := sta_five h5
                cases n with
                | zero =>
                  simp [lst, blkF]
                  omega
                | succ n =>
                  have hne := lst_ne (n := n) (t := t) (by simpa using hb) hi
                  have h1 := lst_sum (n + 1) (s :: t)
                  have h2 := ih d (lst (n + 1) (s :: t)).2
                  have h3 := flat_len (fun l => bgE 4 :: (blkF (n + 1) (d + 1) l ++ [fnE 4])) (fun x => 4 * tot x + 2) (fun a => by have := ih (d + 1) a; simp; omega) (lst (n + 1) (s :: t)).1
                  have h4 := sum_less (lst (n + 1) (s :: t)).1 (fun x => 4 * tot x) hne
                  rw [tot_cons] at h1
                  simp only [List.length_cons, List.length_append]
                  omega
              · have h1 := ih d (prg d t).2
                have h2 := prg_tot d t
                have h3 := leafE_len 0 0 (joinN (trm s :: (prg d t).1)) true
                rw [List.length_append]
                omega
end Go.Proofs.YtbioecifiogffaaDoor
