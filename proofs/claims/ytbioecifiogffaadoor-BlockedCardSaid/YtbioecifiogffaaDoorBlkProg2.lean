/- blocks.Lines, skip: what they give. Condition: no more than 2^24 bytes; the library's own variable is there. -/
import Derived.Test.YtbioecifiogffaaDoorBlkProg1
namespace Go.Proofs.YtbioecifiogffaaDoor
open Go.RowKit

theorem splA_count (n : Nat) : ∀ s : List UInt8, Lib.count s [10] = n → (splA [] s).length = n + 1 := by
  induction n with
  | zero =>
    intro s h
    cases hf : fnd 10 s with
    | none => rw [splA_none _ hf]; rfl
    | some k =>
      have := Lib.count_hit (s := s) (sub := [10]) (i := k) (by simp) (by rw [index_fnd, hf]; simp [plc])
      omega
  | succ n ih =>
    intro s h
    cases hf : fnd 10 s with
    | none =>
      have hi : Lib.index s [10] = -1 := by rw [index_fnd, hf]; rfl
      have : Lib.count s [10] = 0 := Lib.count_miss hi
      omega
    | some k =>
      have hi : Lib.index s [10] = (k : Nat) := by rw [index_fnd, hf]; simp [plc]
      have hc := Lib.count_hit (s := s) (sub := [10]) (i := k) (by simp) hi
      rw [splA_some _ hf, List.length_cons, ih _ (by simp at hc ⊢; omega)]
theorem LnAt.lit (w : World) (l : List Ln) (t : TypeId) (hl : l.length ≤ maxLen) : LnAt (w.alloc (.cells (lnCells l).toArray t)) w.heap.size (.slice (some ⟨w.heap.size, 0, none⟩) l.length l.length) l := by
  refine ⟨_, _, 0, rfl, Nat.le_refl _, hl, fun _ => ⟨rfl, fun j s hj => ?_⟩⟩
  have hh := heap_alloc_new w (.cells (lnCells l).toArray t)
  rw [Lib.cell_of_heap hh, Nat.zero_add]
  have := lnCells_get l j s hj
  simpa using this
theorem LnAt.uptov {w : World} {g n cap : Nat} {a : Option Addr} {l : List Ln} (h : LnAt w g (.slice a n cap) l) (k : Nat) (hk : k ≤ l.length) : LnAt w g (.slice a k cap) (l.take k) := by
  obtain ⟨a', cap', off, he, h2, h3, h4⟩ := h
  cases he
  refine ⟨a, cap, off, by rw [List.length_take, Nat.min_eq_left hk], by rw [List.length_take]; omega, h3, fun hne => ?_⟩
  have hne' : l ≠ [] := fun e => by rw [e] at hne; simp at hne
  obtain ⟨ha, hc⟩ := h4 hne'
  exact ⟨ha, fun j s hj => hc j s (by rw [List.getElem?_take] at hj; split at hj; exact hj; cases hj)⟩

set_option maxHeartbeats 2000000 in
set_option maxRecDepth 100000 in
theorem pLines_any (s : ByteArray) (w : World) (hs : s.size ≤ 16777216) (hG : Gl w) :
    Calls Tryd.prog 65 #[.string s] w fun e w' => ∃ v, e = .returned v ∧ LnAt w' w.heap.size v (lns s.data.toList) ∧ Fresh w w' := by
  obtain ⟨⟨m, hm⟩, -⟩ := hG
  have hsp := Tryd.strings_Split s ⟨#[10]⟩ m w (by omega) hm (by decide)
  obtain ⟨L, hL⟩ : ∃ L, splA [] s.data.toList = L := ⟨_, rfl⟩
  have hne : L ≠ [] := by rw [← hL]; exact splA_ne _ _
  have hcnt : L.length = Lib.countB s ⟨#[10]⟩ + 1 := by rw [← hL]; exact splA_count _ _ rfl
  have hof : offE L = lns s.data.toList := by rw [← hL]; exact lns_spl [] _
  have hcells : (Lib.splitB ⟨#[10]⟩ 0 (Lib.countB s ⟨#[10]⟩) s).map Value.string = lnCells L := by
    have h1 := Lib.splitB_data ⟨#[10]⟩ 0 (Lib.countB s ⟨#[10]⟩) s
    have h2 : Lib.splitK [10] 0 (Lib.countB s ⟨#[10]⟩) s.data.toList = L := by rw [← hL]; exact splitK_spl _ _ rfl
    rw [show (⟨#[10]⟩ : ByteArray).data.toList = [10] from rfl, h2] at h1
    rw [← h1]
    unfold lnCells
    rw [List.map_map]
    rfl
  have hct := Lib.countB_le ⟨#[10]⟩ (by decide) s.size s (Nat.le_refl _)
  rw [hcells, ← hcnt] at hsp
  rw [← hof]
  have hat := LnAt.lit w L 9 (by unfold maxLen; omega)
  obtain ⟨W, hW⟩ : ∃ W, w.alloc (.cells (lnCells L).toArray 9) = W := ⟨_, rfl⟩
  have hF : Fresh w W := by rw [← hW]; exact (Keeps.refl _ _).alloc _
  rw [hW] at hat hsp
  obtain ⟨M, x, hx⟩ : ∃ M x, L = M ++ [x] := by
    rcases List.eq_nil_or_concat L with h | ⟨m, x, h⟩
    · exact absurd h hne
    · exact ⟨m, x, by rw [h, List.concat_eq_append]⟩
  have hML : L.length = M.length + 1 := by rw [hx]; simp
  have hlast : L[M.length]? = some x := by rw [hx]; simp
  obtain ⟨cap, off, hv, -, -, hcell⟩ := hat.line hlast
  cases hv
  rw [Nat.zero_add] at hcell
  obtain ⟨X, hX, hXl, hXs⟩ := mk_of x
  rw [hX] at hcell
  have hXE := str_empty X
  rw [hXl] at hXE
  have hML2 : M.length ≤ 16777216 := by omega
  have hof2 : offE L = if x = [] then M else L := by
    unfold offE
    have h1 : L.getLast? = some x := by rw [hx]; simp
    have h2 : L.dropLast = M := by rw [hx]; simp
    rw [h1, h2]
    by_cases h : x = []
    · rw [if_pos h, if_pos (by rw [h])]
    · rw [if_neg h, if_neg (fun e => h (Option.some.inj e))]
  rw [hof2]
  have htk : L.take M.length = M := by rw [hx]; simp
  have HSP := Lib.hid hsp
  have HAT := Lib.hid hat
  have HF := Lib.hid hF
  have HTK := Lib.hid htk
  have HML := Lib.hid hML
  rw [hML] at HSP HAT
  clear hsp hat hF hL hne hcnt hof hcells hW hX hlast hof2 hct htk hML hXs hx
  by_cases h0 : x = []
  · rw [if_pos h0]
    have hXE2 : X.toList.isEmpty = true := by rw [hXE]; simpa using h0
    clear hXE h0 hXl
    go_enter Tryd.func65, Tryd.ntmps65
    go_wp2_with fail
    refine HSP.out.mono ?_
    rintro e w2 ⟨rfl, rfl⟩
    go_wp2
    go_ret
    refine ⟨_, rfl, ?_, HF.out⟩
    have := HAT.out.uptov M.length (by have := HML.out; omega)
    rw [HTK.out] at this
    exact this
  · rw [if_neg h0]
    have hXE2 : X.toList.isEmpty = false := by rw [hXE]; simpa using h0
    have hXE3 : ¬ X.toList = [] := by rw [ByteArray.toList_eq, hXl]; exact h0
    clear hXE h0 hXl
    go_enter Tryd.func65, Tryd.ntmps65
    go_wp2_with fail
    refine HSP.out.mono ?_
    rintro e w2 ⟨rfl, rfl⟩
    go_wp2
    go_ret
    exact ⟨_, rfl, HAT.out, HF.out⟩

set_option maxHeartbeats 2000000 in
set_option maxRecDepth 100000 in
theorem skip_any (g : Nat) (v : Value) (l : List Ln) (w : World) (h : LnAt w g v l) (hL : tot l ≤ 16777216) :
    Calls Tryd.prog 118 #[v] w fun e w' => e = .returned (.int .i64 ((nbl l : Nat) : Int)) ∧ Fresh w w' := by
  obtain ⟨N, hN⟩ : ∃ N, nbl l = N := ⟨_, rfl⟩
  rw [hN]
  obtain ⟨a, cap, rfl⟩ := h.form
  have hlen := tot_len l
  have h0 : 0 + nbl (l.drop 0) = N := by rw [Nat.zero_add, List.drop_zero]; exact hN
  have HN := Lib.hid h0
  have H := Lib.hid h
  clear hN h h0
  go_enter Tryd.func118, Tryd.ntmps118
  go_wp2
  go_loopw [3] (fun i wr => ∃ j : Nat, i = .int .i64 j ∧ j ≤ l.length ∧ j + nbl (l.drop j) = N ∧ Fresh w wr) (fun i _ => l.length - (intOf i).toNat)
  case atStart => exact ⟨0, rfl, Nat.zero_le _, HN.out, Keeps.refl _ _⟩
  case round =>
    obtain ⟨j, rfl, hj, hr, hF⟩ := hrel
    by_cases hlt : j < l.length
    · obtain ⟨s, hs⟩ : ∃ s, l[j]? = some s := ⟨l[j], List.getElem?_eq_getElem hlt⟩
      have hd : l.drop j = s :: l.drop (j + 1) := by
        rw [List.drop_eq_getElem_cons hlt]
        rw [List.getElem?_eq_getElem hlt] at hs
        injection hs with hs
        rw [hs]
      obtain ⟨cap', off, he, h1, h2, hcell⟩ := (H.out.fresh hF).line hs
      cases he
      have hsz : s.length ≤ tot l := by
        have := tot_drop l j
        rw [hd, tot_cons] at this
        omega
      have hbl := fun W : World => empty_any ⟨s.toArray⟩ W (by simp [ByteArray.size]; omega)
      rw [show (⟨s.toArray⟩ : ByteArray).data.toList = s from rfl] at hbl
      rw [hd] at hr
      unfold nbl at hr
      cases hb : blank s with
      | true =>
        rw [hb] at hbl hr
        have hr2 : j + 1 + nbl (l.drop (j + 1)) = N := by rw [if_pos rfl] at hr; omega
        have HR := Lib.hid hr2
        have HB := Lib.hid hbl
        have HF := Lib.hid hF
        clear hr hr2 hbl hF hd hs hb
        go_wp2_with fail
        refine (HB.out _).mono ?_
        rintro r w2 ⟨rfl, hk2⟩
        have HF2 := Lib.hid (HF.out.tr hk2)
        clear hk2
        go_wp2
        go_roundw
        case rel => exact ⟨j + 1, by go_num, by omega, HR.out, HF2.out⟩
        case measure => simp [intOf]; omega
      | false =>
        rw [hb] at hbl hr
        have hr2 : N = j := by simpa using hr.symm
        subst hr2
        have HB := Lib.hid hbl
        have HF := Lib.hid hF
        clear hr hbl hF hd hs hb
        go_wp2_with fail
        refine (HB.out _).mono ?_
        rintro r w2 ⟨rfl, hk2⟩
        have HF2 := Lib.hid (HF.out.tr hk2)
        clear hk2
        go_wp2
        go_ret
        exact ⟨rfl, HF2.out⟩
    · obtain rfl : j = l.length := by omega
      rw [List.drop_length] at hr
      have hr2 : N = l.length := by simpa [nbl] using hr.symm
      have HR := Lib.hid hr2
      clear hr hr2 hlt
      go_wp2
      go_ret
      exact ⟨by rw [HR.out]; rfl, hF⟩
end Go.Proofs.YtbioecifiogffaaDoor
