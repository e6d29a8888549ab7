/- prosekeep.inside: true where something of a kind may begin within what is open. Condition: at most 5000 are open. -/
import Derived.Test.YtbioecifiogffabGreatDoorR4
import Derived.Test.YtbioecifiogffabGreatDoorR2
import Derived.Deep.CutBlock
import Derived.Deep.DeepCutAuto
set_option linter.unusedVariables false
set_option linter.unusedSimpArgs false
set_option maxHeartbeats 8000000
set_option maxRecDepth 1000000
namespace Go.Proofs.YtbioecifiogffabGreatDoor
open Go.RowKit
theorem deepC_take {st : List Ev} {j : Nat} {x : Ev} (h : st[j]? = some x) : deepC (st.take (j + 1)) = deepC (st.take j) + if x.kind = 2 ∨ x.kind = 4 then 1 else 0 := by
 rw [List.take_add_one, h]
 exact deepC_snoc _ _
theorem deepC_le (st : List Ev) (j : Nat) : deepC (st.take j) ≤ j := by
 unfold deepC
 have := List.length_filter_le (fun e : Ev => decide (e.kind = 2) || decide (e.kind = 4)) (st.take j)
 have h2 := List.length_take_le j st
 omega
theorem inside_facts {st : List Ev} {k : Int} (h : insideP st k = true) : (∀ (j : Nat) (x : Ev), st[j]? = some x → x.kind = k → ¬ k = 6 ∧ ¬ k = 7) ∧
 ((k = 4 ∧ topK st = 3 ∧ deepC st < 3) ∨ ((k = 6 ∨ k = 7) ∧ (topK st = 0 ∨ topK st = 1 ∨ topK st = 6 ∨ topK st = 7)) ∨ ((k = 2 ∨ k = 3) ∧ deepC st < 3 ∧ (topK st = -1 ∨ topK st = 2 ∨ topK st = 4)) ∨
   ((¬ k = 2 ∧ ¬ k = 3 ∧ ¬ k = 4 ∧ ¬ k = 6 ∧ ¬ k = 7) ∧ (topK st = -1 ∨ topK st = 2 ∨ topK st = 4))) := by
 unfold insideP at h
 split at h
 ·cases h
 ·rename_i h0
  refine ⟨fun j x hx hk => ?_, ?_⟩
  ·have hh : hasK st k = true := List.any_eq_true.2 ⟨x, List.mem_of_getElem? hx, by simpa using hk⟩
   exact ⟨fun h => h0 ⟨.inl h, hh⟩, fun h => h0 ⟨.inr h, hh⟩⟩
  ·split at h
   ·simp only [Bool.and_eq_true, decide_eq_true_eq] at h
    exact .inl ⟨by assumption, h⟩
   ·split at h
    ·exact .inr (.inl ⟨by assumption, by simpa using h⟩)
    ·split at h
     ·simp only [Bool.and_eq_true, decide_eq_true_eq] at h
      exact .inr (.inr (.inl ⟨by assumption, h.2, h.1⟩))
     ·exact .inr (.inr (.inr ⟨by omega, by simpa using h⟩))
theorem topK_at {st : List Ev} {m : Nat} {x : Ev} (hm : st.length = m + 1) (h : st[m]? = some x) : topK st = x.kind := by
 unfold topK
 rw [List.getLast?_eq_getElem?, hm, Nat.add_sub_cancel, h]
theorem Evs.pop {w : World} {t : TypeId} {p : Option Addr} {m c : Nat} {L : List Ev} {e : Ev} (h : Evs w t (.slice p (m + 1) c) (L ++ [e])) (hm : L.length = m) : Evs w t (.slice p m c) L := by
 subst hm
 unfold Evs at h ⊢
 obtain ⟨h1, h2⟩ := h
 refine ⟨evCells_length L, .inr ?_⟩
 rw [show (L ++ [e]).length = L.length + 1 by simp] at h2
 rcases h2 with ⟨h2, h3⟩ | ⟨g, cap, cur, he, hb, hg, hc, hm, hs, ht⟩
 ·simp at h3
 ·cases he
  refine ⟨g, c, cur, rfl, hb, hg, by omega, hm, hs, ?_⟩
  have := congrArg (List.take (L.length * 4)) ht
  rw [List.take_take, evCells_append, List.take_left' (evCells_length L)] at this
  rw [← this]
  congr 1
  omega
theorem inside_any (k : Int) (st : List Ev) (v : Value) (w : World) (h : Evs w 33 v st) (hl : st.length ≤ 5000) (hi : insideP st k = true) :
 Calls Tryz.prog 7 #[v, .int .i64 k] w fun e w' => e = .returned (.bool true) ∧ w' = w := by
 obtain ⟨hno, hcase⟩ := inside_facts hi
 obtain ⟨p, c, rfl, -, -, -⟩ := own_form h
 obtain ⟨N, hN⟩ : ∃ N, st.length = N := ⟨_, rfl⟩
 obtain ⟨T, hT⟩ : ∃ T, topK st = T := ⟨_, rfl⟩
 obtain ⟨D, hD⟩ : ∃ D, deepC st = D := ⟨_, rfl⟩
 rw [hT, hD] at hcase
 rw [hN] at hl ⊢
 have hD0 : deepC (st.take N) = D := by rw [← hN, List.take_length, hD]
 have HE := Lib.hid h
 have HNO := Lib.hid hno
 have HCASE := Lib.hid hcase
 have HN := Lib.hid hN
 have HT := Lib.hid hT
 have HD := Lib.hid hD0
 clear hno hcase h hi hN hT hD hD0
 go_enter Tryz.func7, Tryz.ntmps7
 go_upto_block 0 with fail
 go_cut [6] (fun d wr => d = .int .i64 D ∧ wr = w)
 case first =>
  go_wp2
  go_loopw [6, 7] (fun d i wr => ∃ j : Nat, i = .int .i64 j ∧ j ≤ N ∧ d = .int .i64 (deepC (st.take j) : Nat) ∧ wr = w) (fun _ i _ => N - (intOf i).toNat)
  case atStart => exact ⟨0, rfl, Nat.zero_le _, rfl, rfl⟩
  case round =>
   obtain ⟨j, rfl, hj, rfl, rfl⟩ := hrel
   by_cases hlt : j < N
   ·obtain ⟨x, hx⟩ : ∃ x, st[j]? = some x := ⟨st[j]'(by rw [HN.out]; exact hlt), List.getElem?_eq_getElem _⟩
    obtain ⟨g, hp, -, hgl, x0, -, -, -⟩ := Evs.at (show Evs wr 33 (.slice p N c) st from by have := HE.out; rw [HN.out] at this; exact this) hx
    subst hp
    have hsum := deepC_take hx
    have hdl := deepC_le st j
    have hnk := HNO.out j x hx
    obtain ⟨S, hS⟩ : ∃ S, deepC (st.take j) = S := ⟨_, rfl⟩
    rw [hS] at hsum hdl ⊢
    obtain ⟨S2, hS2⟩ : ∃ S2, deepC (st.take (j + 1)) = S2 := ⟨_, rfl⟩
    rw [hS2] at hsum
    obtain ⟨kk, hkk⟩ : ∃ kk, x.kind = kk := ⟨_, rfl⟩
    rw [hkk] at hsum x0 hnk
    have HS2 := Lib.hid hS2
    clear hx hS hS2 hkk
    rcases (show (kk = k ∧ ¬ k = 6 ∧ ¬ k = 7) ∨ ¬ kk = k from by by_cases e : kk = k; exact .inl ⟨e, hnk e⟩; exact .inr e) with ⟨rfl, n6, n7⟩ | hne
    ·clear hnk
     by_cases k2 : kk = 2
     ·subst k2
      rw [if_pos (.inl rfl)] at hsum
      have HSUM := Lib.hid hsum
      clear hsum
      go_wp2
      go_roundw
      case rel => exact ⟨j + 1, by go_num, by omega, by rw [HS2.out, HSUM.out]; go_num, by trivial⟩
      case measure => simp [intOf]; omega
     by_cases k4 : kk = 4
     ·subst k4
      rw [if_pos (.inr rfl)] at hsum
      have HSUM := Lib.hid hsum
      clear hsum
      go_wp2
      go_roundw
      case rel => exact ⟨j + 1, by go_num, by omega, by rw [HS2.out, HSUM.out]; go_num, by trivial⟩
      case measure => simp [intOf]; omega
     rw [if_neg (by omega)] at hsum
     have b2 : (kk == 2) = false := by simpa using k2
     have b4 : (kk == 4) = false := by simpa using k4
     have b6 : (kk == 6) = false := by simpa using n6
     have b7 : (kk == 7) = false := by simpa using n7
     have HSUM := Lib.hid hsum
     clear hsum
     go_wp2
     go_roundw
     case rel => exact ⟨j + 1, by go_num, by omega, by rw [HS2.out, HSUM.out]; go_num, by trivial⟩
     case measure => simp [intOf]; omega
    ·clear hnk
     by_cases k2 : kk = 2
     ·subst k2
      rw [if_pos (.inl rfl)] at hsum
      have HSUM := Lib.hid hsum
      clear hsum
      go_wp2
      go_roundw
      case rel => exact ⟨j + 1, by go_num, by omega, by rw [HS2.out, HSUM.out]; go_num, by trivial⟩
      case measure => simp [intOf]; omega
     by_cases k4 : kk = 4
     ·subst k4
      rw [if_pos (.inr rfl)] at hsum
      have HSUM := Lib.hid hsum
      clear hsum
      go_wp2
      go_roundw
      case rel => exact ⟨j + 1, by go_num, by omega, by rw [HS2.out, HSUM.out]; go_num, by trivial⟩
      case measure => simp [intOf]; omega
     rw [if_neg (by omega)] at hsum
     have b2 : (kk == 2) = false := by simpa using k2
     have b4 : (kk == 4) = false := by simpa using k4
     have HSUM := Lib.hid hsum
     clear hsum
     go_wp2
     go_roundw
     case rel => exact ⟨j + 1, by go_num, by omega, by rw [HS2.out, HSUM.out]; go_num, by trivial⟩
     case measure => simp [intOf]; omega
   ·obtain rfl : j = N := by omega
    rw [HD.out]
    go_wp2
    go_meet
    exact ⟨rfl, by trivial⟩
 case rest =>
  obtain ⟨rfl, hw0⟩ := hcut
  obtain rfl : w = wc := hw0.symm
  by_cases hz : N = 0
  ·subst hz
   have hT := HT.out
   rw [List.eq_nil_of_length_eq_zero HN.out] at hT
   have hT1 : T = -1 := hT.symm
   subst hT1
   rcases HCASE.out with ⟨-, h, -⟩ | ⟨-, h⟩ | ⟨rfl | rfl, hd3, -⟩ | ⟨⟨n2, n3, n4, n6, n7⟩, -⟩
   ·omega
   ·omega
   ·have d3 : (D : Int) < 3 := by omega
    go_wp2
    go_ret
    exact ⟨rfl, rfl⟩
   ·have d3 : (D : Int) < 3 := by omega
    go_wp2
    go_ret
    exact ⟨rfl, rfl⟩
   ·go_wp2
    go_ret
    exact ⟨rfl, rfl⟩
  ·obtain ⟨m, rfl⟩ : ∃ m, N = m + 1 := ⟨N - 1, by omega⟩
   obtain ⟨x, hx⟩ : ∃ x, st[m]? = some x := ⟨st[m]'(by rw [HN.out]; omega), List.getElem?_eq_getElem _⟩
   obtain ⟨g, hp, -, hgl, x0, -, -, -⟩ := Evs.at (show Evs w 33 (.slice p (m + 1) c) st from by have := HE.out; rw [HN.out] at this; exact this) hx
   subst hp
   have hT := HT.out
   rw [topK_at HN.out hx] at hT
   rw [hT] at x0
   have hcase := HCASE.out
   clear hT HT HCASE HN HD HNO HE hx hz
   rcases hcase with ⟨rfl, rfl, hd3⟩ | ⟨rfl | rfl, rfl | rfl | rfl | rfl⟩ | ⟨rfl | rfl, hd3, rfl | rfl | rfl⟩ | ⟨⟨n2, n3, n4, n6, n7⟩, rfl | rfl | rfl⟩
   all_goals (try have d3 : (D : Int) < 3 := by omega)
   all_goals (go_wp2; go_ret; exact ⟨rfl, rfl⟩)
end Go.Proofs.YtbioecifiogffabGreatDoor
