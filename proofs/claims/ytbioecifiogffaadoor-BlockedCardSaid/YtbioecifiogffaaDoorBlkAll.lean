/- (*finder).all: the blocks of some lines. Condition: no more than 2^24 bytes. -/
import Derived.Test.YtbioecifiogffaaDoorBlkList2
namespace Go.Proofs.YtbioecifiogffaaDoor
open Go.RowKit

theorem eqlF (f : Nat) (w : World) : (binOp .eql 147 (.func (.func f) #[] #[]) .nilFunc).run Tryd.prog w = .ok (.bool false) w := by kernel_rfl
theorem eqlN (w : World) : (binOp .eql 147 .nilFunc .nilFunc).run Tryd.prog w = .ok (.bool true) w := by kernel_rfl
theorem eqGF (f n : Nat) (w : World) : (eqGuard .eql 147 (.tmp n) (.const .nilFunc) (.func (.func f) #[] #[]) .nilFunc).run Tryd.prog w = .ok () w := by kernel_rfl
theorem eqGN (n : Nat) (w : World) : (eqGuard .eql 147 (.tmp n) (.const .nilFunc) .nilFunc .nilFunc).run Tryd.prog w = .ok () w := by kernel_rfl

theorem fnc_lns (l : List Ln) : (fnc l).2.length ≤ l.length := by
  induction l with
  | nil => simp [fnc]
  | cons s t ih =>
    unfold fnc
    split
    · simp
    · simp only [List.length_cons]; omega
theorem qtd_lns (l : List Ln) : (qtd l).2.length ≤ l.length := by
  induction l with
  | nil => simp [qtd]
  | cons s t ih =>
    unfold qtd
    split
    · simp only [List.length_cons]; omega
    · simp
theorem prg_lns (d : Nat) (l : List Ln) : (prg d l).2.length ≤ l.length := by
  induction l with
  | nil => simp [prg]
  | cons s t ih =>
    unfold prg
    split
    · simp
    · simp only [List.length_cons]; omega
theorem lst_lns (n : Nat) : ∀ l : List Ln, (lst n l).2.length ≤ l.length := by
  induction n with
  | zero => intro l; simp [lst]
  | succ n ih =>
    intro l
    unfold lst
    split
    · exact Nat.le_refl _
    · rename_i s t hsk
      split
      · have h1 := ih (itm t).2
        have h2 := itm_len t
        have h3 : t.length + 1 ≤ l.length := by
          have h4 := nbl_skb l
          have h5 := congrArg List.length (h4.trans hsk)
          simp at h5
          omega
        simp only
        omega
      · exact Nat.le_refl _

section
variable {k : Nat} {caps : Array Value} {R : List EvL} {F : World → List EvL → (Nat → Prop) → Prop}

/-- A block that begins with this line: the function that finds it, what is told, what is left. -/
theorem block_any (E : EmitOK k caps R F) (m d : Nat) (IH : AllOK k caps R F m) (s : Ln) (t : List Ln) (hb : blank s = false) (hm : tot (s :: t) < m + 1) (hL : tot (s :: t) ≤ 16777216) (hd : d ≤ 3) :
    ∃ (fk : Nat) (M : List EvL) (Z : List Ln), whatV (sta s d) = (if sta s d = 0 then .nilFunc else .func (.func fk) #[] #[]) ∧ (sta s d = 0 → fk = 74) ∧ (∀ (args : Array Value) (w : World), (callFunc fk args).run Tryd.prog w = .ok (.enter fk args) w) ∧
      blkF (m + 1) d (s :: t) = M ++ blkF m d Z ∧ tot Z < tot (s :: t) ∧ Z.length ≤ t.length ∧
      ∀ (C g : Nat) (v : Value) (w : World) (L : List EvL) (o : Nat → Prop), Fnd w C (fnV k caps) d → LnAt w g v (s :: t) → F w L o → ¬ o C → (¬ o g ∧ g ≠ C) → (∃ rest, L ++ M ++ rest = R) → Calls Tryd.prog fk #[.pointer (some ⟨C, 0, none⟩), v] w (StepOK F g L M Z o w) := by
  have htc := tot_cons s t
  have hlen := tot_len (s :: t)
  by_cases h2 : sta s d = 2
  · refine ⟨87, leafE 5 0 (fnc t).1 false, (fnc t).2, by rw [h2]; rfl, fun h => by omega, enters_of Tryd.func87 (by kernel_rfl) rfl, ?_, by have := fnc_tot t; omega, fnc_lns t, fun C g v w L o h hv hF hC hg hR => code_any E C d g v s t w L o h hv hF hC hg hL hR⟩
    conv => lhs; unfold blkF
    rw [hb, if_neg (by decide), if_pos h2]
  by_cases h3 : sta s d = 3
  · refine ⟨89, leafE 1 (lvl s) (trm (s.drop (lvl s))) true, t, by rw [h3]; rfl, fun h => by omega, enters_of Tryd.func89 (by kernel_rfl) rfl, ?_, by omega, Nat.le_refl _, fun C g v w L o h hv hF hC hg hR => hdg_any E C d g v s t w L o h hv hF hC hg hL (sta_three h3).1 hR⟩
    conv => lhs; unfold blkF
    rw [hb, if_neg (by decide), if_neg h2, if_pos h3]
  by_cases h4 : sta s d = 4
  · obtain ⟨hq, hd3⟩ := sta_four h4
    have hqt := qtd_tot (s :: t)
    have hq1 : 1 ≤ (qtd (s :: t)).1.length := by simp [qtd, hq]
    refine ⟨90, bgE 2 :: (blkF m (d + 1) (qtd (s :: t)).1 ++ [fnE 2]), (qtd (s :: t)).2, by rw [h4]; rfl, fun h => by omega, enters_of Tryd.func90 (by kernel_rfl) rfl, ?_, by omega, by have := qtd_lns t; simpa [qtd, hq] using this, fun C g v w L o h hv hF hC hg hR => quote_any E m IH C d g v (s :: t) w L o h hv hF hC hg hL (by omega) hd3 hR⟩
    conv => lhs; unfold blkF
    rw [hb, if_neg (by decide), if_neg h2, if_neg h3, if_pos h4]
    simp
  by_cases h5 : sta s d = 5
  · obtain ⟨hi, hd3⟩ := sta_five h5
    refine ⟨92, bgE 3 :: ((lst m (s :: t)).1.flatMap (itE m d) ++ [fnE 3]), (lst m (s :: t)).2, by rw [h5]; rfl, fun h => by omega, enters_of Tryd.func92 (by kernel_rfl) rfl, ?_, ?_, ?_, fun C g v w L o h hv hF hC hg hR => list_any E m IH C d g m v (s :: t) w L o h hv hF hC hg hL (by omega) hd3 (by omega) (by simp) hR⟩
    · conv => lhs; unfold blkF
      rw [hb, if_neg (by decide), if_neg h2, if_neg h3, if_neg h4, if_pos h5]
      simp
      rfl
    · obtain ⟨m', rfl⟩ : ∃ m', m = m' + 1 := ⟨m - 1, by have := hlen; simp only [List.length_cons] at this; omega⟩
      rw [lst_item hi]
      have h6 := item_tot (t := t) hi
      have h7 := lst_sum m' (itm t).2
      simp only
      omega
    · obtain ⟨m', rfl⟩ : ∃ m', m = m' + 1 := ⟨m - 1, by have := hlen; simp only [List.length_cons] at this; omega⟩
      rw [lst_item hi]
      have h6 := itm_len t
      have h7 := lst_lns m' (itm t).2
      simp only
      omega
  · have h0 : sta s d = 0 := by have := sta_cases s d; omega
    have hp := prg_tot d t
    refine ⟨74, leafE 0 0 (joinN (trm s :: (prg d t).1)) true, (prg d t).2, by rw [h0]; rfl, fun _ => rfl, enters_of Tryd.func74 (by kernel_rfl) rfl, ?_, by omega, prg_lns d t, fun C g v w L o h hv hF hC hg hR => par_any E C d g v s t w L o h hv hF hC hg hL hd hb hR⟩
    conv => lhs; unfold blkF
    rw [hb, if_neg (by decide), if_neg h2, if_neg h3, if_neg h4, if_neg h5]

theorem blkF_blank {m d : Nat} {s : Ln} {t : List Ln} (hb : blank s = true) : blkF (m + 1) d (s :: t) = blkF m d t := by
  conv => lhs; unfold blkF
  rw [hb, if_pos rfl]
theorem blkF_nil (m d : Nat) : blkF m d [] = [] := by cases m <;> rfl

set_option maxHeartbeats 8000000 in
set_option maxRecDepth 100000 in
theorem all_any (E : EmitOK k caps R F) : ∀ n : Nat, AllOK k caps R F n := by
  intro n
  induction n using Nat.strongRecOn with
  | ind n IH =>
  intro C d g v l w L o h hv hF hC hg hn hL hd hR
  obtain ⟨X, hX⟩ : ∃ X, blkF n d l = X := ⟨_, rfl⟩
  have hst : [] ++ blkF n d l = X := hX
  rw [hX] at hR ⊢
  obtain ⟨rest, hR⟩ := hR
  have hCw : C < w.heap.size := World.block_lt_of_cell? w ⟨C, 0, none⟩ h.cells.1
  have hgw : l ≠ [] → g < w.heap.size := fun hne => hv.lt hne
  have H := Lib.hid h
  have HV := Lib.hid hv
  have HF := Lib.hid hF
  have HE := Lib.hid E
  have HIH := Lib.hid IH
  have HR := Lib.hid hR
  have HST := Lib.hid hst
  have HG := Lib.hid hg
  have HGW := Lib.hid hgw
  clear h hv hF E IH hR hst hX hg hgw
  go_enter Tryd.func64, Tryd.ntmps64
  go_wp2_with fail
  go_loopw [1] (fun v wr => ∃ (m : Nat) (cur : List Ln) (done : List EvL) (o1 : Nat → Prop), LnAt wr g v cur ∧ (cur ≠ [] → l ≠ []) ∧ tot cur < m ∧ m ≤ n ∧ tot cur ≤ tot l ∧ F wr (L ++ done) o1 ∧ Mv o o1 w wr ∧ done ++ blkF m d cur = X) (fun v _ => slen v)
  case atStart => exact ⟨n, l, [], o, HV.out, id, hn, Nat.le_refl _, Nat.le_refl _, by rw [List.append_nil]; exact HF.out, Mv.refl _ _, HST.out⟩
  case round =>
    obtain ⟨m, cur, done, o1, hv, hne, hm, hmn, hct, hF, hmv, hx⟩ := hrel
    obtain ⟨wo, rfl⟩ : ∃ wo : World, wo = wr := ⟨_, rfl⟩
    cases cur with
    | nil =>
      obtain ⟨a, cap, rfl⟩ := hv.form
      rw [blkF_nil, List.append_nil] at hx
      have HX := Lib.hid hx
      have HF1 := Lib.hid hF
      have HM := Lib.hid hmv
      clear hx hF hmv hv hne
      go_wp2
      go_end0
      exact ⟨rfl, o1, by rw [← HX.out]; exact HF1.out, HM.out⟩
    | cons s t =>
      have hl0 := hne (by simp)
      obtain ⟨hgo, hgC⟩ := HG.out hl0
      have hgw := HGW.out hl0
      have nC1 := hmv.not hCw hC
      have ng1 := hmv.not hgw hgo
      have hfd : Fnd wo C (fnV k caps) d := hmv.heap H.out hC
      obtain ⟨cap, off, rfl, h1, h2, hcell⟩ := hv.line (j := 0) (s := s) rfl
      rw [Nat.add_zero] at hcell
      obtain ⟨S, hS, hSl, hSs⟩ := mk_of s
      rw [hS] at hcell
      have htc : tot (s :: t) = s.length + 1 + tot t := tot_cons s t
      have hem := fun W : World => empty_any S W (by omega)
      rw [hSl] at hem
      have hll : ((s :: t).length : Int) = (t.length : Int) + 1 := by simp
      have hl1 : (0 : Int) < (t.length : Int) + 1 := by omega
      obtain ⟨m, rfl⟩ : ∃ m', m = m' + 1 := ⟨m - 1, by omega⟩
      cases hb : blank s with
      | true =>
        rw [hb] at hem
        rw [blkF_blank hb] at hx
        have hvc := hv.cutv 1 (by simp) (m := t.length) (by simp)
        have HEM := Lib.hid hem
        have HVC := Lib.hid hvc
        have HX := Lib.hid hx
        have HF1 := Lib.hid hF
        have HM := Lib.hid hmv
        clear hx hF hmv hv hne hem hvc hS hSl hSs hfd hb
        go_wp2_with fail
        refine (HEM.out _).mono ?_
        rintro e w2 ⟨rfl, hk2⟩
        have HK2 := Lib.hid hk2
        clear hk2
        go_wp2
        go_roundw
        case rel => exact ⟨m, t, done, o1, HVC.out.fresh HK2.out, fun _ => hl0, by omega, by omega, by omega, HE.out.fresh HF1.out HK2.out, HM.out.trans (Mv.fresh HK2.out), HX.out⟩
        case measure => simp [slen]
      | false =>
        rw [hb] at hem
        obtain ⟨fk, M, Z, hwv, hpar, ent, hblk, htz, hzl, hcall⟩ := block_any HE.out m d (HIH.out m (by omega)) s t hb hm (by omega) hd
        rw [hblk] at hx
        have hx2 : (done ++ M) ++ blkF m d Z = X := by rw [← hx]; simp
        have hwh := fun (W : World) (hW : Fresh wo W) => what_any C d (fnV k caps) S W (hfd.fresh hW) (by omega) hd
        rw [hSl, hwv] at hwh
        have hRM : ∃ rest', L ++ done ++ M ++ rest' = R := ⟨blkF m d Z ++ rest, by rw [← HR.out, ← hx2]; simp⟩
        have hst := fun (W : World) (hW : Fresh wo W) => hcall C g _ W (L ++ done) o1 (hfd.fresh hW) (hv.fresh hW) (HE.out.fresh hF hW) nC1 ⟨ng1, hgC⟩ hRM
        have hck := fun (W : World) (hW : Fresh wo W) => (hW.cell_some hcell (fun h => h) : W.cell? ⟨g, off, none⟩ = some (.string S))
        have HEM := Lib.hid hem
        have HWH := Lib.hid hwh
        have HX := Lib.hid hx2
        have HM := Lib.hid hmv
        have HSTEP := Lib.hid hst
        have HCK := Lib.hid hck
        have HPAR := Lib.hid hpar
        have HZ := Lib.hid htz
        clear hx hx2 hF hmv hv hem hwh hS hSl hSs hfd hb hblk hst hcall hck hRM hpar hwv htz
        by_cases h0 : sta s d = 0
        · have hfk := HPAR.out h0
          subst hfk
          rw [if_pos h0] at HWH
          have eN := eqlN
          have gN := eqGN
          clear h0
          go_wp2_with fail
          refine (HEM.out _).mono ?_
          rintro e w2 ⟨rfl, hk2⟩
          have hcell2 := HCK.out _ hk2
          have HK2 := Lib.hid hk2
          clear hk2
          go_wp2_with fail
          refine (HWH.out _ HK2.out).mono ?_
          rintro e w3 ⟨rfl, hk3⟩
          have HK3 := Lib.hid (HK2.out.tr hk3)
          clear hk3 hcell2
          go_wp2_with fail
          refine (HSTEP.out _ HK3.out).mono ?_
          rintro e w4 ⟨v', o2, rfl, hv4, hF4, hm4⟩
          have HV4 := Lib.hid hv4
          have HF4 := Lib.hid hF4
          have HM4 := Lib.hid hm4
          obtain ⟨a4, c4, rfl⟩ := hv4.form
          clear hv4 hF4 hm4
          go_wp2
          go_roundw
          case rel => exact ⟨m, Z, done ++ M, o2, HV4.out, fun _ => hl0, by have := HZ.out; omega, by omega, by have := HZ.out; omega, by rw [← List.append_assoc]; exact HF4.out, (HM.out.trans (Mv.fresh HK3.out)).trans HM4.out, HX.out⟩
          case measure => simp only [slen]; omega
        · rw [if_neg h0] at HWH
          have eF := eqlF fk
          have gF := eqGF fk
          clear h0
          go_wp2_with fail
          refine (HEM.out _).mono ?_
          rintro e w2 ⟨rfl, hk2⟩
          have hcell2 := HCK.out _ hk2
          have HK2 := Lib.hid hk2
          clear hk2
          go_wp2_with fail
          refine (HWH.out _ HK2.out).mono ?_
          rintro e w3 ⟨rfl, hk3⟩
          have HK3 := Lib.hid (HK2.out.tr hk3)
          clear hk3 hcell2
          go_wp2_with fail
          refine (HSTEP.out _ HK3.out).mono ?_
          rintro e w4 ⟨v', o2, rfl, hv4, hF4, hm4⟩
          have HV4 := Lib.hid hv4
          have HF4 := Lib.hid hF4
          have HM4 := Lib.hid hm4
          obtain ⟨a4, c4, rfl⟩ := hv4.form
          clear hv4 hF4 hm4
          go_wp2
          go_roundw
          case rel => exact ⟨m, Z, done ++ M, o2, HV4.out, fun _ => hl0, by have := HZ.out; omega, by omega, by have := HZ.out; omega, by rw [← List.append_assoc]; exact HF4.out, (HM.out.trans (Mv.fresh HK3.out)).trans HM4.out, HX.out⟩
          case measure => simp only [slen]; omega
end
end Go.Proofs.YtbioecifiogffaaDoor
