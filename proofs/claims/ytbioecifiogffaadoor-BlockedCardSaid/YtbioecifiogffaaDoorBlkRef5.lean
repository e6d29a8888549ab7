/- proseref.Lines, behind: what they give. Condition: no more than 2^24 bytes. -/
import Derived.Test.YtbioecifiogffaaDoorBlkRef4
import Derived.Test.YtbioecifiogffaaDoorInlRef5
namespace Go.Proofs.YtbioecifiogffaaDoor
open Go.RowKit

theorem ln_at (w : World) (s : ByteArray) (t : TypeId) (H : Nat) (hH : w.heap.size = H) : ∀ ad, some (⟨H, 0, none⟩ : Addr) = some ad → ∀ j u, [Value.string s][j]? = some u → (w.alloc (.cells #[.string s] t)).cell? (ad.add j) = some u := by
  subst hH
  exact ln_new w s t
theorem ln_add (w : World) (s : ByteArray) (t : TypeId) {v : Value} {n : Nat} {xs : List Value} {e : TypeId} (h : w.ownsRow 0 e 1 v n xs) : (w.alloc (.cells #[.string s] t)).ownsRow 0 e 1 v n xs := own_kept h ((Keeps.refl (fun _ => False) _).alloc _) (fun _ _ h => h)
theorem str_empty (A : ByteArray) : A.toList.isEmpty = decide (A.data.toList = []) := by
  rw [ByteArray.toList_eq]
  cases A.data.toList <;> simp

set_option maxHeartbeats 4000000 in
set_option maxRecDepth 100000 in
theorem rLines_any (s : ByteArray) (w : World) (hs : s.size ≤ 16777216) :
    Calls Tryd.prog 16 #[.string s] w fun e w' => ∃ v, e = .returned v ∧ Lns w' v (lns s.data.toList) ∧ (∀ b, v.ownBlock = some b → w.heap.size ≤ b) ∧ Fresh w w' := by
  obtain ⟨R, hR⟩ : ∃ R, R = lns s.data.toList := ⟨_, rfl⟩
  rw [← hR]
  have h0 : ([] : List Ln) ++ lnsA [] (s.data.toList.drop 0) = R := by rw [List.drop_zero, hR]; rfl
  have H0 := Lib.hid h0
  have HI := Lib.hid Tryd.infoStr
  clear hR h0
  go_enter Tryd.func16, Tryd.ntmps16
  go_wp2
  go_loopw [3, 4, 5] (fun l a i wr => ∃ (j : Nat) (done : List Ln) (A : ByteArray), i = .int .i64 j ∧ j ≤ s.size ∧ a = .string A ∧ A.size ≤ j ∧ done.length ≤ j ∧ Lns wr l done ∧ done ++ lnsA A.data.toList (s.data.toList.drop j) = R ∧ (∀ b, l.ownBlock = some b → w.heap.size ≤ b) ∧ Fresh w wr) (fun _ _ i _ => s.size - (intOf i).toNat)
  case atStart => exact ⟨0, [], ⟨#[]⟩, rfl, Nat.zero_le _, rfl, Nat.le_refl _, Nat.le_refl _, Lns.nil _, H0.out, (fun b h => by cases h), Keeps.refl _ _⟩
  case round =>
    obtain ⟨j, done, A, rfl, hj, rfl, hA, hdl, hl, hr, ho, hF⟩ := hrel
    obtain ⟨q, c, rfl, hqc, hq, hg⟩ := own_form hl
    have hAE := str_empty A
    by_cases hlt : j < s.size
    · have hd := drop_lt hlt
      obtain ⟨b, hb⟩ : ∃ b, s[j]'hlt = b := ⟨_, rfl⟩
      rw [hb] at hd
      rw [hd] at hr
      unfold lnsA at hr
      by_cases h10 : b = 10
      · subst h10
        rw [if_pos rfl] at hr
        have hr2 : (done ++ [A.data.toList]) ++ lnsA (⟨#[]⟩ : ByteArray).data.toList (s.data.toList.drop (j + 1)) = R := by rw [← hr]; simp
        have HR := Lib.hid hr2
        have hl2 : wr.ownsRow 0 9 1 (.slice q done.length c) done.length (lnCells done) := hl
        have HL := Lib.hid (ln_add _ A 9 hl2)
        have HO := Lib.hid ho
        have HF := Lib.hid hF
        clear hr hr2 hl hl2 ho hF hd hAE hq hg
        go_wp2_with (at_builtin; refine wpList_append_mine _ rfl _ _ 41 rfl 9 _ 1 16 Tryd.underlying41 HI.out rfl (by decide) _ _ _ rfl HL.out _ 1 1 [.string A] rfl rfl (fun h => (by cases h)) (ln_at _ A 9 _ (by simp)) (str_one _) (by unfold maxLen; omega) (by omega) ?_)
        intro p5 c5 w5 hr5 hg5 hk5
        obtain ⟨ho5, hF5⟩ := own_grow (HF.out.alloc _) HO.out hg5 hk5
        have HL5 := Lib.hid (Lns.snoc (s := A.data.toList) hr5)
        have HO5 := Lib.hid ho5
        have HF5 := Lib.hid hF5
        clear hr5 hg5 hk5 ho5 hF5
        go_wp2
        go_roundw
        case rel => exact ⟨j + 1, done ++ [A.data.toList], ⟨#[]⟩, by go_num, by omega, rfl, Nat.zero_le _, by simp; omega, HL5.out, HR.out, HO5.out, HF5.out⟩
        case measure => simp [intOf]; omega
      · rw [if_neg h10] at hr
        have q : ((b.toNat : Int) == 10) = false := (u8_beq b 10).trans (decide_eq_false h10)
        have hx : (A ++ s.extract j (j + 1)).data.toList = A.data.toList ++ [b] := by
          rw [ByteArray.data_append, Array.toList_append, ext_list, hd]
          simp
        have hr2 : done ++ lnsA (A ++ s.extract j (j + 1)).data.toList (s.data.toList.drop (j + 1)) = R := by rw [hx]; exact hr
        have hes : (s.extract j (j + 1)).size = 1 := by rw [ByteArray.size_extract]; omega
        have hsz : (A ++ s.extract j (j + 1)).size = A.size + 1 := by rw [ByteArray.size_append, hes]
        have HR := Lib.hid hr2
        have HL := Lib.hid hl
        have HO := Lib.hid ho
        have HF := Lib.hid hF
        have HSZ := Lib.hid hsz
        have HES := Lib.hid hes
        clear hr hr2 hl ho hF hd hAE hq hg hx hsz h10 hes
        go_wp2
        go_roundw
        case rel => exact ⟨j + 1, done, _, by go_num, by omega, rfl, by rw [HSZ.out]; omega, by omega, HL.out, HR.out, HO.out, HF.out⟩
        case measure => simp [intOf]; omega
    · obtain rfl : j = s.size := by omega
      rw [drop_ge (by omega)] at hr
      unfold lnsA at hr
      by_cases h0 : A.data.toList = []
      · rw [if_pos h0, List.append_nil] at hr
        subst hr
        rw [h0] at hAE
        have hAE2 : A.toList = [] := by rw [ByteArray.toList_eq, h0]
        have HL := Lib.hid hl
        clear h0 hl hq hg
        go_wp2
        go_ret
        exact ⟨_, rfl, HL.out, ho, hF⟩
      · rw [if_neg h0] at hr
        rw [decide_eq_false h0] at hAE
        have hAE2 : ¬ A.toList = [] := by rw [ByteArray.toList_eq]; exact h0
        have hl2 : wr.ownsRow 0 9 1 (.slice q done.length c) done.length (lnCells done) := hl
        have HL := Lib.hid (ln_add _ A 9 hl2)
        have HO := Lib.hid ho
        have HF := Lib.hid hF
        have HR := Lib.hid hr
        clear hr hl hl2 ho hF hq hg h0
        go_wp2_with (at_builtin; refine wpList_append_mine _ rfl _ _ 41 rfl 9 _ 1 16 Tryd.underlying41 HI.out rfl (by decide) _ _ _ rfl HL.out _ 1 1 [.string A] rfl rfl (fun h => (by cases h)) (ln_at _ A 9 _ (by simp)) (str_one _) (by unfold maxLen; omega) (by omega) ?_)
        intro p5 c5 w5 hr5 hg5 hk5
        obtain ⟨ho5, hF5⟩ := own_grow (HF.out.alloc _) HO.out hg5 hk5
        have hl5 := Lns.snoc (s := A.data.toList) hr5
        rw [HR.out] at hl5
        have HL5 := Lib.hid hl5
        have HO5 := Lib.hid ho5
        have HF5 := Lib.hid hF5
        clear hr5 hg5 hk5 ho5 hF5 hl5
        go_wp2
        go_ret
        exact ⟨_, rfl, HL5.out, HO5.out, HF5.out⟩

set_option maxHeartbeats 2000000 in
set_option maxRecDepth 100000 in
theorem behind_any (g : Nat) (v : Value) (l : List Ln) (n : Nat) (w : World) (h : LnAt w g v l) (hn : n ≤ l.length) (hL : tot l ≤ 16777216) :
    Calls Tryd.prog 51 #[v, .int .i64 n] w fun e w' => e = .returned (.int .i64 ((n + nbl (l.drop n) : Nat) : Int)) ∧ Fresh w w' := by
  obtain ⟨N, hN⟩ : ∃ N, N = n + nbl (l.drop n) := ⟨_, rfl⟩
  rw [← hN]
  obtain ⟨a, cap, rfl⟩ := h.form
  have hlen := tot_len l
  have HN := Lib.hid hN.symm
  have H := Lib.hid h
  clear hN h
  go_enter Tryd.func51, Tryd.ntmps51
  go_wp2
  go_loopw [1] (fun i wr => ∃ j : Nat, i = .int .i64 j ∧ j ≤ l.length ∧ j + nbl (l.drop j) = N ∧ Fresh w wr) (fun i _ => l.length - (intOf i).toNat)
  case atStart => exact ⟨n, rfl, hn, HN.out, Keeps.refl _ _⟩
  case round =>
    obtain ⟨j, rfl, hj, hr, hF⟩ := hrel
    by_cases hlt : j < l.length
    · obtain ⟨s, hs⟩ : ∃ s, l[j]? = some s := ⟨l[j], List.getElem?_eq_getElem hlt⟩
      have hd : l.drop j = s :: l.drop (j + 1) := by
        rw [List.drop_eq_getElem_cons hlt]
        rw [List.getElem?_eq_getElem hlt] at hs
        injection hs with hs
        rw [hs]
      obtain ⟨cap', off, he, h1, h2, hcell⟩ := (H.out.fresh hF).line hs
      cases he
      have hsz : s.length ≤ tot l := by
        have := tot_drop l j
        rw [hd, tot_cons] at this
        omega
      have hbl := fun W : World => rBlank_any ⟨s.toArray⟩ W (by simp [ByteArray.size]; omega)
      rw [show (⟨s.toArray⟩ : ByteArray).data.toList = s from rfl] at hbl
      rw [hd] at hr
      unfold nbl at hr
      cases hb : blank s with
      | true =>
        rw [hb] at hbl hr
        have hr2 : j + 1 + nbl (l.drop (j + 1)) = N := by rw [if_pos rfl] at hr; omega
        have HR := Lib.hid hr2
        have HB := Lib.hid hbl
        have HF := Lib.hid hF
        clear hr hr2 hbl hF hd hs hb
        go_wp2_with fail
        refine (HB.out _).mono ?_
        rintro r w2 ⟨rfl, hk2⟩
        have HF2 := Lib.hid (HF.out.tr hk2)
        clear hk2
        go_wp2
        go_roundw
        case rel => exact ⟨j + 1, by go_num, by omega, HR.out, HF2.out⟩
        case measure => simp [intOf]; omega
      | false =>
        rw [hb] at hbl hr
        have hr2 : N = j := by simpa using hr.symm
        subst hr2
        have HB := Lib.hid hbl
        have HF := Lib.hid hF
        clear hr hbl hF hd hs hb
        go_wp2_with fail
        refine (HB.out _).mono ?_
        rintro r w2 ⟨rfl, hk2⟩
        have HF2 := Lib.hid (HF.out.tr hk2)
        clear hk2
        go_wp2
        go_ret
        exact ⟨rfl, HF2.out⟩
    · obtain rfl : j = l.length := by omega
      rw [List.drop_length] at hr
      have hr2 : N = l.length := by simpa [nbl] using hr.symm
      have HR := Lib.hid hr2
      clear hr hr2 hlt
      go_wp2
      go_ret
      exact ⟨by rw [HR.out]; rfl, hF⟩
end Go.Proofs.YtbioecifiogffaaDoor
