/- (*finder).quote, by what all does with fewer lines. Condition: no more than 2^24 bytes. -/
import Derived.Test.YtbioecifiogffaaDoorBlkLeaf
namespace Go.Proofs.YtbioecifiogffaaDoor
open Go.RowKit

theorem quo_rest {s : Ln} (h : isQuo s = true) : Lib.trimPrefix s [62] = s.drop 1 := by
  unfold Lib.trimPrefix
  rw [isQuo_pre, h]
  rfl
theorem quo_unq {s : Ln} : Lib.trimPrefix (s.drop 1) [32] = unq s := by
  unfold unq Lib.trimPrefix
  generalize s.drop 1 = t
  cases t with
  | nil => rfl
  | cons c r =>
    unfold Lib.hasPrefix
    by_cases hc : c = 32
    · subst hc; rfl
    · have h2 : ¬ 32 = c := fun e => hc e.symm
      have hp : ([32] : List UInt8).isPrefixOf (c :: r) = false := by simp [List.isPrefixOf, h2]
      rw [hp]
      simp only [Bool.false_eq_true, if_false]
      split
      · rename_i h; injection h with h _; exact absurd h hc
      · rfl
/-- An owned row of lines is read where it lies. -/
theorem Lns.atB {w : World} {v : Value} {l : List Ln} (h : Lns w v l) : ∃ g, LnAt w g v l ∧ (l ≠ [] → v.ownBlock = some g) := by
  refine ⟨(v.ownBlock).getD 0, h.at, fun hne => ?_⟩
  rcases h.2 with ⟨rfl, h0⟩ | ⟨g, cap, cur, rfl, hb, hg, hc, hm, _⟩
  · exact absurd (List.eq_nil_of_length_eq_zero h0) hne
  · rfl

section
variable {k : Nat} {caps : Array Value} {R : List EvL} {F : World → List EvL → (Nat → Prop) → Prop}

set_option maxHeartbeats 8000000 in
set_option maxRecDepth 100000 in
theorem quote_any (E : EmitOK k caps R F) (n : Nat) (IH : AllOK k caps R F n) (C d g : Nat) (v : Value) (l : List Ln) (w : World) (L : List EvL) (o : Nat → Prop) (h : Fnd w C (fnV k caps) d) (hv : LnAt w g v l) (hF : F w L o) (hC : ¬ o C) (hg : ¬ o g ∧ g ≠ C)
    (hL : tot l ≤ 16777216) (hn : tot (qtd l).1 < n) (hd : d < 3) (hR : ∃ rest, L ++ (bgE 2 :: (blkF n (d + 1) (qtd l).1 ++ [fnE 2])) ++ rest = R) :
    Calls Tryd.prog 90 #[.pointer (some ⟨C, 0, none⟩), v] w (StepOK F g L (bgE 2 :: (blkF n (d + 1) (qtd l).1 ++ [fnE 2])) (qtd l).2 o w) := by
  have hqt := qtd_tot l
  have hlen := tot_len l
  have h0 : ([] : List Ln) ++ (qtd l).1 = (qtd l).1 ∧ (qtd l).2 = (qtd l).2 := ⟨rfl, rfl⟩
  obtain ⟨X, hX⟩ : ∃ X, (qtd l).1 = X := ⟨_, rfl⟩
  obtain ⟨Y, hY⟩ : ∃ Y, (qtd l).2 = Y := ⟨_, rfl⟩
  have h0 : ([] : List Ln) ++ (qtd l).1 = X ∧ (qtd l).2 = Y := ⟨hX, hY⟩
  rw [hX] at hn hR hqt ⊢
  rw [hY] at hqt ⊢
  have hlt := E.lt hF
  have hCw : C < w.heap.size := World.block_lt_of_cell? w ⟨C, 0, none⟩ h.cells.1
  have HI := Lib.hid Tryd.infoStr
  have H0 := Lib.hid h0
  have HV := Lib.hid hv
  have HF := Lib.hid hF
  have HE := Lib.hid E
  have HR := Lib.hid hR
  have HLT := Lib.hid hlt
  have H := Lib.hid h
  have HIH := Lib.hid IH
  have HG := Lib.hid hg
  clear h0 hv hF E hR hlt h hX hY IH hg
  go_enter Tryd.func90, Tryd.ntmps90
  go_upto_block 0 with fail
  go_cut [1, 5] (fun v i wr => LnAt wr g v Y ∧ Lns wr i X ∧ (∀ b, i.ownBlock = some b → w.heap.size ≤ b) ∧ Fresh w wr)
  case first =>
    go_wp2_with fail
    go_loopw [1, 5] (fun v i wr => ∃ (cur done : List Ln), LnAt wr g v cur ∧ tot cur ≤ tot l ∧ Lns wr i done ∧ (done ++ (qtd cur).1 = X ∧ (qtd cur).2 = Y) ∧ (∀ b, i.ownBlock = some b → w.heap.size ≤ b) ∧ Fresh w wr) (fun v _ _ => slen v)
    case atStart => exact ⟨l, [], HV.out, Nat.le_refl _, Lns.nil _, H0.out, (fun b h => by cases h), Keeps.refl _ _⟩
    case round =>
      obtain ⟨cur, done, hv, hct, hi, ⟨hx, hy⟩, ho, hFr⟩ := hrel
      cases cur with
      | nil =>
        obtain ⟨a, cap, rfl⟩ := hv.form
        have hx2 : done = X := by simpa [qtd] using hx
        have hy2 : ([] : List Ln) = Y := hy
        subst hx2 hy2
        have HVV := Lib.hid hv
        have HII := Lib.hid hi
        have HOO := Lib.hid ho
        have HFR := Lib.hid hFr
        clear hx hy hv hi ho hFr
        go_wp2
        go_meet
        exact ⟨HVV.out, HII.out, HOO.out, HFR.out⟩
      | cons s t =>
        have htc : tot (s :: t) = s.length + 1 + tot t := tot_cons s t
        obtain ⟨cap, off, rfl, h1, h2, hcell⟩ := hv.line (j := 0) (s := s) rfl
        rw [Nat.add_zero] at hcell
        obtain ⟨S, hS, hSl, hSs⟩ := mk_of s
        rw [hS] at hcell
        have hcp := fun W : World => Tryd.strings_CutPrefix S ⟨#[62]⟩ W
        rw [hSl, show (⟨#[62]⟩ : ByteArray).data.toList = [62] from rfl, isQuo_pre] at hcp
        obtain ⟨T, hT, hTl, hTs⟩ := mk_of (Lib.trimPrefix s [62])
        rw [hT] at hcp
        have hll : ((s :: t).length : Int) = (t.length : Int) + 1 := by simp
        cases hq : isQuo s with
        | false =>
          have e : qtd (s :: t) = ([], s :: t) := by simp [qtd, hq]
          rw [e] at hx hy
          have hx2 : done = X := by simpa using hx
          have hy2 : s :: t = Y := hy
          rw [hq] at hcp
          have HCP := Lib.hid hcp
          have HVV := Lib.hid hv
          have HII := Lib.hid hi
          have HOO := Lib.hid ho
          have HFR := Lib.hid hFr
          have HX := Lib.hid hx2
          have HY := Lib.hid hy2
          clear hx hy hx2 hy2 hv hi ho hFr hcp hS hSl hSs hT hTl hTs e hq htc hll
          go_wp2_with fail
          refine (HCP.out _).mono ?_
          rintro e w5 ⟨rfl, rfl⟩
          go_wp2
          go_meet
          exact ⟨by rw [← HY.out]; exact HVV.out, by rw [← HX.out]; exact HII.out, HOO.out, HFR.out⟩
        | true =>
          have e : qtd (s :: t) = (unq s :: (qtd t).1, (qtd t).2) := by simp [qtd, hq]
          rw [e] at hx hy
          have hx2 : (done ++ [unq s]) ++ (qtd t).1 = X := by rw [← hx]; simp
          have htp := fun W : World => Tryd.strings_TrimPrefix T ⟨#[32]⟩ W
          rw [hTl, show (⟨#[32]⟩ : ByteArray).data.toList = [32] from rfl, quo_rest hq, quo_unq] at htp
          obtain ⟨U, hU, hUl, hUs⟩ := mk_of (unq s)
          rw [hU] at htp
          rw [hq] at hcp
          obtain ⟨q5, c5, rfl, -, -, -⟩ := own_form hi
          have hdl : done.length ≤ X.length := by rw [← hx]; simp
          have hXt := tot_len X
          have hil : wr.ownsRow 0 9 1 (.slice q5 done.length c5) done.length (lnCells done) := hi
          have hvc := hv.cutv 1 (by simp) (m := t.length) (by simp)
          have HVC := Lib.hid hvc
          have HCP := Lib.hid hcp
          have HTP := Lib.hid htp
          have HL5 := Lib.hid (ln_add wr U 9 hil)
          have HOO := Lib.hid ho
          have HFR := Lib.hid hFr
          have HX := Lib.hid hx2
          have HY := Lib.hid hy
          have HUL := Lib.hid hUl
          have hgr : g < wr.heap.size := hv.lt (by simp)
          have hg0 : g < w.heap.size := HV.out.lt (by intro e0; rw [e0] at hct; simp [tot] at hct)
          clear hx hy hx2 hv hi hil ho hFr hcp htp hS hSl hSs hT hTl hTs e hq hvc hU hUl hUs hll
          go_wp2_with fail
          refine (HCP.out _).mono ?_
          rintro e w5 ⟨rfl, rfl⟩
          go_wp2_with fail
          refine (HTP.out _).mono ?_
          rintro e w6 ⟨rfl, rfl⟩
          go_wp2_with (at_builtin; refine wpList_append_mine _ rfl _ _ 41 rfl 9 _ 1 16 Tryd.underlying41 HI.out rfl (by decide) _ _ _ rfl HL5.out _ 1 1 [.string U] rfl rfl (fun h => (by cases h)) (ln_at _ U 9 _ (by simp)) (str_one _) (by unfold maxLen; omega) (by omega) ?_)
          intro p7 c7 w7 hr7 hg7 hk7
          obtain ⟨ho7, hF7⟩ := own_grow (HFR.out.alloc _) HOO.out hg7 hk7
          have hv7 := HVC.out.keeps (((Keeps.refl (fun k => (Value.slice q5 done.length c5).ownBlock = some k) w6).alloc _).tr hk7) (fun _ h => by have := HOO.out g h; omega)
          have HV7 := Lib.hid hv7
          have HR7 := Lib.hid (Lns.snoc (s := U.data.toList) hr7)
          have HO7 := Lib.hid ho7
          have HF7 := Lib.hid hF7
          clear hr7 hg7 hk7 ho7 hF7 hv7
          go_wp2
          go_roundw
          case rel => exact ⟨t, done ++ [unq s], HV7.out, by omega, by rw [← HUL.out]; exact HR7.out, ⟨HX.out, HY.out⟩, HO7.out, HF7.out⟩
          case measure => simp [slen]
  case rest =>
    obtain ⟨hv, hi, ho, hFr⟩ := hcut
    obtain ⟨gv, hat, hgv⟩ := hi.atB
    have hfd := H.out.fresh hFr
    have hdp := deeper_any HE.out n HIH.out C d gv 2 _ X wc L o hfd hat (HE.out.fresh HF.out hFr) hC (fun hne => by
      have := ho gv (hgv hne)
      exact ⟨fun h => by have := HLT.out _ h; omega, by omega⟩) hn (by omega) hd HR.out
    have HDP := Lib.hid hdp
    have HV2 := Lib.hid hv
    have HFR := Lib.hid hFr
    clear hdp hv hi ho hFr hat hgv hfd
    go_wp2_with fail
    refine HDP.out.mono ?_
    rintro e w2 ⟨rfl, o2, hF2, hm2⟩
    have hv2 := HV2.out.mv hm2 (fun _ => HG.out.1)
    have HV3 := Lib.hid hv2
    have HM := Lib.hid ((Mv.fresh HFR.out).trans hm2)
    clear hv2 hm2
    go_wp2
    go_ret
    exact ⟨_, o2, rfl, HV3.out, hF2, HM.out⟩
end
end Go.Proofs.YtbioecifiogffaaDoor
