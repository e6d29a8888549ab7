/- proseref.quoted, by what Blocks does with fewer lines. Condition: no more than 2^24 bytes. -/
import Derived.Test.YtbioecifiogffaaDoorBlkRef7
import Derived.Test.YtbioecifiogffaaDoorBlkLen
namespace Go.Proofs.YtbioecifiogffaaDoor
open Go.RowKit

/-- Blocks is as said, of lines that come to less than n. -/
def RBlkOK (n : Nat) : Prop := ∀ (g : Nat) (v : Value) (l : List Ln) (d : Nat) (w : World), LnAt w g v l → tot l < n → tot l ≤ 16777216 → d ≤ 3 →
  Calls Tryd.prog 17 #[v, .int .i64 d] w fun e w' => ∃ u, e = .returned u ∧ Evs w' 61 u (EL (blkF n d l)) ∧ (∀ b, u.ownBlock = some b → w.heap.size ≤ b) ∧ Fresh w w'

theorem unq_cases {s : Ln} (h : isQuo s = true) : ∃ t, s = 62 :: t ∧ ((∃ r, t = 32 :: r ∧ unq s = r) ∨ ((∀ r, t ≠ 32 :: r) ∧ unq s = t)) := by
  unfold isQuo at h
  split at h
  · rename_i t
    refine ⟨t, rfl, ?_⟩
    unfold unq
    simp only [List.drop_succ_cons, List.drop_zero]
    cases t with
    | nil => exact .inr ⟨fun r h => (by cases h), rfl⟩
    | cons c r =>
      by_cases hc : c = 32
      · subst hc; exact .inl ⟨r, rfl, rfl⟩
      · refine .inr ⟨fun r' h => ?_, ?_⟩
        · injection h with h1 _; exact hc h1
        · split
          · rename_i h'; injection h' with h1 _; exact absurd h1 hc
          · rfl
  · cases h
theorem isQuo_first {s : Ln} (h : isQuo s = false) : s = [] ∨ ∃ c t, s = c :: t ∧ c ≠ 62 := by
  cases s with
  | nil => exact .inl rfl
  | cons c t =>
    refine .inr ⟨c, t, rfl, fun e => ?_⟩
    subst e
    simp [isQuo] at h
theorem evs_three {w : World} {t : TypeId} {p : Option Addr} {c n : Nat} {L : List Ev} {e : Ev} (h : w.ownsRow 0 t 4 (.slice p (n + 1) c) (n + 1) (evCells L ++ e.cells)) (hn : L.length = n) : Evs w t (.slice p (n + 1) c) (L ++ [e]) := by
  subst hn
  exact Evs.snoc h
theorem evs_app {w : World} {t : TypeId} {p : Option Addr} {c n m : Nat} {L M : List Ev} (h : w.ownsRow 0 t 4 (.slice p (n + m) c) (n + m) (evCells L ++ evCells M)) (hn : L.length = n) (hm : M.length = m) : Evs w t (.slice p (n + m) c) (L ++ M) := by
  subst hn hm
  exact Evs.app h
theorem cells0 (s : Ln) (c : UInt8) (t : Ln) (h : s = c :: t) : ∃ h0 : 0 < (⟨s.toArray⟩ : ByteArray).size, (⟨s.toArray⟩ : ByteArray)[0]'h0 = c := by
  subst h
  exact ⟨by rw [mk_size]; simp, rfl⟩

set_option maxHeartbeats 8000000 in
set_option maxRecDepth 100000 in
theorem quoted_any (m : Nat) (IH : RBlkOK m) (g : Nat) (v : Value) (l : List Ln) (d : Nat) (w : World) (h : LnAt w g v l) (hL : tot l ≤ 16777216) (hd3 : d < 3) (hm : tot (qtd l).1 < m) :
    Calls Tryd.prog 32 #[v, .int .i64 d] w fun e w' => ∃ u N, e = .returned (.tuple #[u, .int .i64 ((N : Nat) : Int)]) ∧ N ≤ l.length ∧ l.drop N = (qtd l).2 ∧ Evs w' 61 u (EL (bgE 2 :: (blkF m (d + 1) (qtd l).1 ++ [fnE 2]))) ∧ (∀ b, u.ownBlock = some b → w.heap.size ≤ b) ∧ Fresh w w' := by
  have hlen := tot_len l
  have hq0 := qtd_tot l
  obtain ⟨X, hX⟩ : ∃ X, X = (qtd l).1 := ⟨_, rfl⟩
  obtain ⟨Y, hY⟩ : ∃ Y, Y = (qtd l).2 := ⟨_, rfl⟩
  have hX4 := blkF_len m (d + 1) X
  rw [← hX] at hm
  rw [← hX, ← hY] at hq0
  rw [← hX, ← hY]
  obtain ⟨BB, hBB⟩ : ∃ BB, BB = EL (blkF m (d + 1) X) := ⟨_, rfl⟩
  have hBl : BB.length ≤ 4 * tot X := by rw [hBB]; simpa [EL] using hX4
  have hres : EL (bgE 2 :: (blkF m (d + 1) X ++ [fnE 2])) = [⟨2, false, 0, []⟩] ++ BB ++ [⟨2, true, 0, []⟩] := by rw [hBB]; simp [EL, bgE, fnE]
  rw [hres]
  have hbk := fun (g' : Nat) (v' : Value) (W : World) (h' : LnAt W g' v' X) => IH g' v' X (d + 1) W h' hm (by omega) (by omega)
  rw [← hBB] at hbk
  have h0 : ([] : List Ln) ++ (qtd (l.drop 0)).1 = X ∧ (qtd (l.drop 0)).2 = Y := by rw [List.drop_zero]; exact ⟨hX.symm, hY.symm⟩
  obtain ⟨a, cap, rfl⟩ := h.form
  have HI := Lib.hid Tryd.infoStr
  have HE := Lib.hid Tryd.infoRE2
  have H := Lib.hid h
  have H0 := Lib.hid h0
  have HBK := Lib.hid hbk
  clear h h0 hX hY hbk hres hBB hX4 IH hm
  go_enter Tryd.func32, Tryd.ntmps32
  go_wp2
  go_loopw [6, 7] (fun x i wr => ∃ (j : Nat) (done : List Ln), i = .int .i64 j ∧ j ≤ l.length ∧ Lns wr x done ∧ done.length ≤ j ∧ (done ++ (qtd (l.drop j)).1 = X ∧ (qtd (l.drop j)).2 = Y) ∧ (∀ b, x.ownBlock = some b → w.heap.size ≤ b) ∧ Fresh w wr) (fun _ i _ => l.length - (intOf i).toNat)
  case atStart => exact ⟨0, [], rfl, Nat.zero_le _, Lns.nil _, Nat.le_refl _, H0.out, (fun b h => by cases h), Keeps.refl _ _⟩
  case round =>
    obtain ⟨j, done, rfl, hj, hl, hdl, ⟨hr1, hr2⟩, ho, hF⟩ := hrel
    obtain ⟨q, c, rfl, hqc, hq, hg⟩ := own_form hl
    by_cases hgo : ∃ s, l[j]? = some s ∧ isQuo s = true
    · obtain ⟨s, hs, hqs⟩ := hgo
      have hlt : j < l.length := (List.getElem?_eq_some_iff.1 hs).1
      have hd : l.drop j = s :: l.drop (j + 1) := by
        obtain ⟨s', hs', hd⟩ := line_at hlt
        rw [hs] at hs'
        cases hs'
        exact hd
      obtain ⟨cap', off, he, h1, h2, hcell⟩ := (H.out.fresh hF).line hs
      cases he
      have hst : s.length ≤ 16777216 := by have := tot_drop l j; rw [hd, tot_cons] at this; omega
      rw [hd] at hr1 hr2
      unfold qtd at hr1 hr2
      rw [hqs] at hr1 hr2
      simp only [if_true] at hr1 hr2
      obtain ⟨t, hst2, hcase⟩ := unq_cases hqs
      obtain ⟨S, hS, hSl, hSs⟩ := mk_of s
      rw [hS] at hcell
      have hS0 : 0 < S.size := by rw [hSs, hst2]; simp
      have hSc : S[0]'hS0 = 62 := by
        have := drop_lt hS0
        rw [List.drop_zero, hSl, hst2] at this
        injection this with h1 _
        exact h1.symm
      have hSi : (0 : Int) < (S.size : Int) := by omega
      have hS1 : (1 : Int) ≤ (S.size : Int) := by omega
      obtain ⟨T, hT⟩ : ∃ T, S.extract 1 S.size = T := ⟨_, rfl⟩
      have hTl : T.data.toList = t := by rw [← hT, rest_list, hSl, hst2]; rfl
      have hTs : T.size = t.length := by rw [← hTl]; simp
      have hSm : S.size ≤ 16777216 := by omega
      have hl2 : wr.ownsRow 0 9 1 (.slice q done.length c) done.length (lnCells done) := hl
      have HO := Lib.hid ho
      have HF := Lib.hid hF
      rcases hcase with ⟨r, hr, hu⟩ | ⟨hr, hu⟩
      · obtain ⟨U, hU⟩ : ∃ U, T.extract 1 T.size = U := ⟨_, rfl⟩
        have hUl : U.data.toList = unq s := by rw [← hU, rest_list, hTl, hr, hu]; rfl
        have hT0 : 0 < T.size := by rw [hTs, hr]; simp
        have hTc : T[0]'hT0 = 32 := by
          have := drop_lt hT0
          rw [List.drop_zero, hTl, hr] at this
          injection this with h1 _
          exact h1.symm
        have hTi : (0 : Int) < (T.size : Int) := by omega
        have hT1 : (1 : Int) ≤ (T.size : Int) := by omega
        have hR : (done ++ [U.data.toList]) ++ (qtd (l.drop (j + 1))).1 = X ∧ (qtd (l.drop (j + 1))).2 = Y := ⟨by rw [← hr1, hUl]; simp, hr2⟩
        have HR := Lib.hid hR
        have HL := Lib.hid (ln_add _ U 9 hl2)
        clear hr1 hr2 hR hl hl2 ho hF hd hs hqs hst2 hS hSl hSs hTl hTs hr hu hUl hq hg
        go_wp2_with (at_builtin; refine wpList_append_mine _ rfl _ _ 41 rfl 9 _ 1 16 Tryd.underlying41 HI.out rfl (by decide) _ _ _ rfl HL.out _ 1 1 [.string U] rfl rfl (fun h => (by cases h)) (ln_at _ U 9 _ (by simp)) (str_one _) (by unfold maxLen; omega) (by omega) ?_)
        intro p5 c5 w5 hr5 hg5 hk5
        obtain ⟨ho5, hF5⟩ := own_grow (HF.out.alloc _) HO.out hg5 hk5
        have HL5 := Lib.hid (Lns.snoc (s := U.data.toList) hr5)
        have HO5 := Lib.hid ho5
        have HF5 := Lib.hid hF5
        clear hr5 hg5 hk5 ho5 hF5
        go_wp2
        go_roundw
        case rel => exact ⟨j + 1, done ++ [U.data.toList], by go_num, by omega, HL5.out, by simp; omega, HR.out, HO5.out, HF5.out⟩
        case measure => simp [intOf]; omega
      · have hUl : T.data.toList = unq s := by rw [hTl, hu]
        obtain ⟨U, hU⟩ : ∃ U, U = T := ⟨_, rfl⟩
        have hTcase : T.size = 0 ∨ ∃ (h0 : 0 < T.size) (x : UInt8), T[0]'h0 = x ∧ ((x.toNat : Int) == 32) = false := by
          cases t with
          | nil => exact .inl (by rw [hTs]; rfl)
          | cons x r =>
            have hT0 : 0 < T.size := by rw [hTs]; simp
            refine .inr ⟨hT0, x, ?_, (u8_beq x 32).trans (decide_eq_false (fun e => hr r (by rw [e])))⟩
            have := drop_lt hT0
            rw [List.drop_zero, hTl] at this
            injection this with h1 _
            exact h1.symm
        have hR : (done ++ [T.data.toList]) ++ (qtd (l.drop (j + 1))).1 = X ∧ (qtd (l.drop (j + 1))).2 = Y := ⟨by rw [← hr1, hUl]; simp, hr2⟩
        have HR := Lib.hid hR
        have HL := Lib.hid (ln_add _ T 9 hl2)
        clear hr1 hr2 hR hl hl2 ho hF hd hs hqs hst2 hS hSl hSs hTl hTs hr hu hUl hq hg hU
        rcases hTcase with hT0 | ⟨hT0, x, hx, hx32⟩
        · go_wp2_with (at_builtin; refine wpList_append_mine _ rfl _ _ 41 rfl 9 _ 1 16 Tryd.underlying41 HI.out rfl (by decide) _ _ _ rfl HL.out _ 1 1 [.string T] rfl rfl (fun h => (by cases h)) (ln_at _ T 9 _ (by simp)) (str_one _) (by unfold maxLen; omega) (by omega) ?_)
          intro p5 c5 w5 hr5 hg5 hk5
          obtain ⟨ho5, hF5⟩ := own_grow (HF.out.alloc _) HO.out hg5 hk5
          have HL5 := Lib.hid (Lns.snoc (s := T.data.toList) hr5)
          have HO5 := Lib.hid ho5
          have HF5 := Lib.hid hF5
          clear hr5 hg5 hk5 ho5 hF5
          go_wp2
          go_roundw
          case rel => exact ⟨j + 1, done ++ [T.data.toList], by go_num, by omega, HL5.out, by simp; omega, HR.out, HO5.out, HF5.out⟩
          case measure => simp [intOf]; omega
        · have hTi : (0 : Int) < (T.size : Int) := by omega
          go_wp2_with (at_builtin; refine wpList_append_mine _ rfl _ _ 41 rfl 9 _ 1 16 Tryd.underlying41 HI.out rfl (by decide) _ _ _ rfl HL.out _ 1 1 [.string T] rfl rfl (fun h => (by cases h)) (ln_at _ T 9 _ (by simp)) (str_one _) (by unfold maxLen; omega) (by omega) ?_)
          intro p5 c5 w5 hr5 hg5 hk5
          obtain ⟨ho5, hF5⟩ := own_grow (HF.out.alloc _) HO.out hg5 hk5
          have HL5 := Lib.hid (Lns.snoc (s := T.data.toList) hr5)
          have HO5 := Lib.hid ho5
          have HF5 := Lib.hid hF5
          clear hr5 hg5 hk5 ho5 hF5
          go_wp2
          go_roundw
          case rel => exact ⟨j + 1, done ++ [T.data.toList], by go_num, by omega, HL5.out, by simp; omega, HR.out, HO5.out, HF5.out⟩
          case measure => simp [intOf]; omega
    · have hstop : done = X ∧ l.drop j = Y ∧ (j = l.length ∨ ∃ s, l[j]? = some s ∧ (s = [] ∨ ∃ c t, s = c :: t ∧ c ≠ 62)) := by
        by_cases hlt : j < l.length
        · obtain ⟨s, hs, hd⟩ := line_at hlt
          have hqf : isQuo s = false := by
            cases hb : isQuo s with
            | false => rfl
            | true => exact absurd ⟨s, hs, hb⟩ hgo
          rw [hd] at hr1 hr2
          unfold qtd at hr1 hr2
          rw [hqf] at hr1 hr2
          simp only [Bool.false_eq_true, if_false, List.append_nil] at hr1 hr2
          exact ⟨hr1, by rw [hd]; exact hr2, .inr ⟨s, hs, isQuo_first hqf⟩⟩
        · have : j = l.length := by omega
          subst this
          rw [List.drop_length] at hr1 hr2
          exact ⟨by simpa [qtd] using hr1, by rw [List.drop_length]; exact hr2, .inl rfl⟩
      obtain ⟨hdX, hdY, hcase⟩ := hstop
      subst hdX
      have hat := hl.at
      generalize hgv : (Value.slice q done.length c).ownBlock.getD 0 = gv at hat
      have hbk := fun (W : World) (hW : Fresh wr W) => HBK.out gv (.slice q done.length c) W (hat.fresh hW)
      have hlit : (wr.alloc (.cells #[.int .i64 2, .bool false, .int .i64 0, .string ⟨#[]⟩] 61)).ownsRow 0 61 4 (.slice (some ⟨wr.heap.size, 0, none⟩) 1 1) 1 (evCells [⟨2, false, 0, []⟩]) := Evs.lit wr 61 [⟨2, false, 0, []⟩] (by simp [maxLen])
      have hfr : Fresh wr (wr.alloc (.cells #[.int .i64 2, .bool false, .int .i64 0, .string ⟨#[]⟩] 61)) := (Keeps.refl _ _).alloc _
      have HBX := Lib.hid (hbk _ hfr)
      have HLIT := Lib.hid hlit
      have HDY := Lib.hid hdY
      clear hr1 hr2 hl hat hbk hdY hgo hgv hq hg ho hlit hfr
      rcases hcase with rfl | ⟨s, hs, hsc⟩
      · have HF := Lib.hid hF
        clear hF
        go_wp2_with fail
        refine HBX.out.mono ?_
        rintro r w2 ⟨u, rfl, he2, ho2, hk2⟩
        obtain ⟨p2, c2, rfl, hc2, hq2, hg2⟩ := own_form he2
        have hcells := own_cells he2 rfl
        have hlen4 : (evCells BB).length = BB.length * 4 := evCells_length BB
        have hrow2 := own_kept HLIT.out hk2 (fun _ _ h => h)
        have hfr0 : Fresh w w2 := (HF.out.alloc _).tr hk2
        have ho1 : ∀ b, (Value.slice (some ⟨wr.heap.size, 0, none⟩) 1 1).ownBlock = some b → w.heap.size ≤ b := fun b h => by simp [Value.ownBlock] at h; have := HF.out.size; omega
        have HROW := Lib.hid hrow2
        have HCL := Lib.hid hcells
        have HL4 := Lib.hid hlen4
        have HF2 := Lib.hid hfr0
        have HO1 := Lib.hid ho1
        clear he2 ho2 hk2 hcells hlen4 hrow2 hfr0 ho1 hc2 hg2
        generalize hbn : BB.length = bn at *
        have HBN := Lib.hid hbn
        clear hbn
        go_wp2_with (at_builtin; refine wpList_append_mine _ rfl _ _ 37 rfl 61 _ 4 40 Tryd.underlying37 HE.out rfl (by decide) _ _ _ rfl HROW.out _ bn c2 (evCells BB) rfl HL4.out hq2 HCL.out (evCells_one' _) (by unfold maxLen; omega) (by omega) ?_)
        intro p5 c5 w5 hr5 hg5 hk5
        obtain ⟨ho5, hF5⟩ := own_grow HF2.out HO1.out hg5 hk5
        have hr6 : w5.ownsRow 0 61 4 (.slice p5 (1 + bn) c5) (1 + bn) (evCells ([⟨2, false, 0, []⟩] ++ BB)) := by rw [evCells_append]; exact hr5
        have HR6 := Lib.hid (ev_add _ ⟨2, true, 0, []⟩ 61 hr6)
        have HO5 := Lib.hid ho5
        have HF5 := Lib.hid hF5
        clear hr5 hg5 hk5 hr6 ho5 hF5
        go_wp2_with (at_builtin; refine wpList_append_mine _ rfl _ _ 37 rfl 61 _ 4 40 Tryd.underlying37 HE.out rfl (by decide) _ _ _ rfl HR6.out _ 1 1 (⟨2, true, 0, []⟩ : Ev).cells rfl rfl (fun h => (by cases h)) (ev_at _ ⟨2, true, 0, []⟩ 61 _ (by simp)) (ev_one _) (by unfold maxLen; omega) (by omega) ?_)
        intro p7 c7 w7 hr7 hg7 hk7
        obtain ⟨ho7, hF7⟩ := own_grow (HF5.out.alloc _) HO5.out hg7 hk7
        have HE7 := Lib.hid (evs_three (L := [⟨2, false, 0, []⟩] ++ BB) hr7 (by rw [List.length_append, HBN.out]; rfl))
        have HO7 := Lib.hid ho7
        have HF7 := Lib.hid hF7
        clear hr7 hg7 hk7 ho7 hF7
        go_wp2
        go_ret2
        exact ⟨_, _, rfl, hj, HDY.out, HE7.out, HO7.out, HF7.out⟩
      · have hlt : j < l.length := (List.getElem?_eq_some_iff.1 hs).1
        obtain ⟨cap', off, he, h1, h2, hcell⟩ := (H.out.fresh hF).line hs
        cases he
        have HF := Lib.hid hF
        obtain ⟨S, hS, hSl, hSs⟩ := mk_of s
        rw [hS] at hcell
        clear hF hs
        rcases hsc with rfl | ⟨x, t, rfl, hx⟩
        · have hS0 : S.size = 0 := hSs
          clear hSl hSs hS
          go_wp2_with fail
          refine HBX.out.mono ?_
          rintro r w2 ⟨u, rfl, he2, ho2, hk2⟩
          obtain ⟨p2, c2, rfl, hc2, hq2, hg2⟩ := own_form he2
          have hcells := own_cells he2 rfl
          have hlen4 : (evCells BB).length = BB.length * 4 := evCells_length BB
          have hrow2 := own_kept HLIT.out hk2 (fun _ _ h => h)
          have hfr0 : Fresh w w2 := (HF.out.alloc _).tr hk2
          have ho1 : ∀ b, (Value.slice (some ⟨wr.heap.size, 0, none⟩) 1 1).ownBlock = some b → w.heap.size ≤ b := fun b h => by simp [Value.ownBlock] at h; have := HF.out.size; omega
          have HROW := Lib.hid hrow2
          have HCL := Lib.hid hcells
          have HL4 := Lib.hid hlen4
          have HF2 := Lib.hid hfr0
          have HO1 := Lib.hid ho1
          clear he2 ho2 hk2 hcells hlen4 hrow2 hfr0 ho1 hc2 hg2
          generalize hbn : BB.length = bn at *
          have HBN := Lib.hid hbn
          clear hbn
          go_wp2_with (at_builtin; refine wpList_append_mine _ rfl _ _ 37 rfl 61 _ 4 40 Tryd.underlying37 HE.out rfl (by decide) _ _ _ rfl HROW.out _ bn c2 (evCells BB) rfl HL4.out hq2 HCL.out (evCells_one' _) (by unfold maxLen; omega) (by omega) ?_)
          intro p5 c5 w5 hr5 hg5 hk5
          obtain ⟨ho5, hF5⟩ := own_grow HF2.out HO1.out hg5 hk5
          have hr6 : w5.ownsRow 0 61 4 (.slice p5 (1 + bn) c5) (1 + bn) (evCells ([⟨2, false, 0, []⟩] ++ BB)) := by rw [evCells_append]; exact hr5
          have HR6 := Lib.hid (ev_add _ ⟨2, true, 0, []⟩ 61 hr6)
          have HO5 := Lib.hid ho5
          have HF5 := Lib.hid hF5
          clear hr5 hg5 hk5 hr6 ho5 hF5
          go_wp2_with (at_builtin; refine wpList_append_mine _ rfl _ _ 37 rfl 61 _ 4 40 Tryd.underlying37 HE.out rfl (by decide) _ _ _ rfl HR6.out _ 1 1 (⟨2, true, 0, []⟩ : Ev).cells rfl rfl (fun h => (by cases h)) (ev_at _ ⟨2, true, 0, []⟩ 61 _ (by simp)) (ev_one _) (by unfold maxLen; omega) (by omega) ?_)
          intro p7 c7 w7 hr7 hg7 hk7
          obtain ⟨ho7, hF7⟩ := own_grow (HF5.out.alloc _) HO5.out hg7 hk7
          have HE7 := Lib.hid (evs_three (L := [⟨2, false, 0, []⟩] ++ BB) hr7 (by rw [List.length_append, HBN.out]; rfl))
          have HO7 := Lib.hid ho7
          have HF7 := Lib.hid hF7
          clear hr7 hg7 hk7 ho7 hF7
          go_wp2
          go_ret2
          exact ⟨_, _, rfl, hj, HDY.out, HE7.out, HO7.out, HF7.out⟩
        · have hS0 : 0 < S.size := by rw [hSs]; simp
          have hx0 : S[0]'hS0 = x := by
            have := drop_lt hS0
            rw [List.drop_zero, hSl] at this
            injection this with h1 _
            exact h1.symm
          have hx62 : ((x.toNat : Int) == 62) = false := (u8_beq x 62).trans (decide_eq_false hx)
          clear hSl hSs hS
          have hSi : (0 : Int) < (S.size : Int) := by omega
          go_wp2_with fail
          refine HBX.out.mono ?_
          rintro r w2 ⟨u, rfl, he2, ho2, hk2⟩
          obtain ⟨p2, c2, rfl, hc2, hq2, hg2⟩ := own_form he2
          have hcells := own_cells he2 rfl
          have hlen4 : (evCells BB).length = BB.length * 4 := evCells_length BB
          have hrow2 := own_kept HLIT.out hk2 (fun _ _ h => h)
          have hfr0 : Fresh w w2 := (HF.out.alloc _).tr hk2
          have ho1 : ∀ b, (Value.slice (some ⟨wr.heap.size, 0, none⟩) 1 1).ownBlock = some b → w.heap.size ≤ b := fun b h => by simp [Value.ownBlock] at h; have := HF.out.size; omega
          have HROW := Lib.hid hrow2
          have HCL := Lib.hid hcells
          have HL4 := Lib.hid hlen4
          have HF2 := Lib.hid hfr0
          have HO1 := Lib.hid ho1
          clear he2 ho2 hk2 hcells hlen4 hrow2 hfr0 ho1 hc2 hg2
          generalize hbn : BB.length = bn at *
          have HBN := Lib.hid hbn
          clear hbn
          go_wp2_with (at_builtin; refine wpList_append_mine _ rfl _ _ 37 rfl 61 _ 4 40 Tryd.underlying37 HE.out rfl (by decide) _ _ _ rfl HROW.out _ bn c2 (evCells BB) rfl HL4.out hq2 HCL.out (evCells_one' _) (by unfold maxLen; omega) (by omega) ?_)
          intro p5 c5 w5 hr5 hg5 hk5
          obtain ⟨ho5, hF5⟩ := own_grow HF2.out HO1.out hg5 hk5
          have hr6 : w5.ownsRow 0 61 4 (.slice p5 (1 + bn) c5) (1 + bn) (evCells ([⟨2, false, 0, []⟩] ++ BB)) := by rw [evCells_append]; exact hr5
          have HR6 := Lib.hid (ev_add _ ⟨2, true, 0, []⟩ 61 hr6)
          have HO5 := Lib.hid ho5
          have HF5 := Lib.hid hF5
          clear hr5 hg5 hk5 hr6 ho5 hF5
          go_wp2_with (at_builtin; refine wpList_append_mine _ rfl _ _ 37 rfl 61 _ 4 40 Tryd.underlying37 HE.out rfl (by decide) _ _ _ rfl HR6.out _ 1 1 (⟨2, true, 0, []⟩ : Ev).cells rfl rfl (fun h => (by cases h)) (ev_at _ ⟨2, true, 0, []⟩ 61 _ (by simp)) (ev_one _) (by unfold maxLen; omega) (by omega) ?_)
          intro p7 c7 w7 hr7 hg7 hk7
          obtain ⟨ho7, hF7⟩ := own_grow (HF5.out.alloc _) HO5.out hg7 hk7
          have HE7 := Lib.hid (evs_three (L := [⟨2, false, 0, []⟩] ++ BB) hr7 (by rw [List.length_append, HBN.out]; rfl))
          have HO7 := Lib.hid ho7
          have HF7 := Lib.hid hF7
          clear hr7 hg7 hk7 ho7 hF7
          go_wp2
          go_ret2
          exact ⟨_, _, rfl, hj, HDY.out, HE7.out, HO7.out, HF7.out⟩
end Go.Proofs.YtbioecifiogffaaDoor
