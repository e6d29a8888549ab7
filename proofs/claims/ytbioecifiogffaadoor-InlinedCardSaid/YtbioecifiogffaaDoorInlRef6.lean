/- proseref.Inline: the events of a leaf. Condition: the text has at most 2^24 bytes. -/
import Derived.Test.YtbioecifiogffaaDoorInlRef5
namespace Go.Proofs.YtbioecifiogffaaDoor
open Go.RowKit

theorem tokAt_ch0 {ins : Bool} {b c : UInt8} {t : List UInt8} (h : tokAt ins b t = (.ch c, 0)) : c = b := by
  unfold tokAt at h
  repeat' split at h
  all_goals simp_all
theorem tokAt_ch {ins : Bool} {b c : UInt8} {t : List UInt8} {k : Nat} (h : tokAt ins b t = (.ch c, k)) : k ≤ t.length := by
  unfold tokAt at h
  repeat' split at h
  all_goals simp_all
  all_goals omega

/-- One round: what stands at the place, told: either text is added, or events are appended. -/
theorem round_cases (n : Nat) (ins : Bool) (b : UInt8) (t p : List UInt8) :
    (oneM n ins b t = ([], 0) ∧ inlF (n + 1) ins (b :: t) p = inlF n ins t (p ++ [b])) ∨
    (∃ c k, k + 1 ≤ t.length ∧ oneM n ins b t = ([⟨8, false, 0, [c]⟩], k + 2) ∧ inlF (n + 1) ins (b :: t) p = inlF n ins (t.drop (k + 1)) (p ++ [c])) ∨
    (∃ e k, k ≤ t.length ∧ e.kind ≠ 8 ∧ oneM n ins b t = ([e], k + 1) ∧ inlF (n + 1) ins (b :: t) p = flushE p ++ [e] ++ inlF n ins (t.drop k) []) ∨
    (∃ e M f k, k ≤ t.length ∧ f.kind ≠ 8 ∧ oneM n ins b t = (e :: (M ++ [f]), k + 1) ∧ inlF (n + 1) ins (b :: t) p = flushE p ++ (e :: (M ++ [f])) ++ inlF n ins (t.drop k) []) := by
  unfold oneM
  simp only [inlF]
  cases h : tokAt ins b t with
  | mk tk k =>
    cases tk with
    | ch c =>
      cases k with
      | zero =>
        have := tokAt_ch0 h
        subst this
        exact .inl ⟨rfl, by simp⟩
      | succ k => exact .inr (.inl ⟨c, k, tokAt_ch h, rfl, rfl⟩)
    | one e =>
      obtain ⟨h1, h2⟩ := tokAt_one h
      exact .inr (.inr (.inl ⟨e, k, h2, h1, rfl, by simp⟩))
    | sub e s i =>
      obtain ⟨h1, h2, h3⟩ := tokAt_sub h
      exact .inr (.inr (.inr ⟨e, inlF n i s [], endE e, k, h3, h1, rfl, by simp⟩))

set_option maxHeartbeats 8000000 in
set_option maxRecDepth 100000 in
theorem Inline_ok (n : Nat) : InlOK n := by
  induction n using Nat.strongRecOn with
  | ind n IH =>
  intro s ins w hs hsn
  obtain ⟨R, hR⟩ : ∃ R, R = inlF n ins s.data.toList [] := ⟨_, rfl⟩
  rw [← hR]
  have hRl : R.length ≤ 33554432 := by
    have h := inlF_length n ins s.data.toList []
    rw [← hR, flushE_nil] at h
    simp at h
    omega
  have hsl : s.data.toList.length = s.size := by simp
  have HI0 := Lib.hid IH
  have HR := Lib.hid hR
  have HSL := Lib.hid hsl
  clear IH hR hsl
  have HI := Lib.hid Tryd.infoRE
  go_enter Tryd.func13, Tryd.ntmps13
  go_wp2
  go_loopw [5, 6] (fun l p wr => Fresh w wr ∧ ∃ (j f : Nat) (done : List Ev) (pd : List UInt8), p = .int .i64 j ∧ j ≤ s.size ∧ Evs wr 61 l (done ++ flushE pd) ∧ NoText done ∧ (∀ k, l.ownBlock = some k → w.heap.size ≤ k) ∧ done ++ inlF f ins (s.data.toList.drop j) pd = R ∧ f ≤ n ∧ (s.data.toList.drop j).length < f ∧ pd.length ≤ j) (fun _ p _ => s.size - (intOf p).toNat)
  case atStart => exact ⟨Keeps.refl _ _, 0, n, [], [], rfl, Nat.zero_le _, Evs.nil _ _, NoText.nil, (fun k hk => by cases hk), by rw [HR.out]; rfl, Nat.le_refl _, by rw [List.drop_zero, HSL.out]; exact hsn, Nat.le_refl _⟩
  case round =>
    obtain ⟨hF, j, f, done, pd, rfl, hj, hev, hnt, hown, heq, hfn, hfl, hpd⟩ := hrel
    obtain ⟨q, c, rfl, hc, hq, hg⟩ := own_form hev
    generalize hmm : (done ++ flushE pd).length = mm at *
    by_cases hlt : j < s.size
    · have hd := drop_lt hlt
      obtain ⟨b, hb⟩ : ∃ b, s[j]'hlt = b := ⟨_, rfl⟩
      rw [hb] at hd
      obtain ⟨t, ht⟩ : ∃ t, s.data.toList.drop (j + 1) = t := ⟨_, rfl⟩
      rw [ht] at hd
      rw [hd] at heq hfl
      obtain ⟨f, rfl⟩ : ∃ k, f = k + 1 := ⟨f - 1, by simp only [List.length_cons] at hfl; omega⟩
      simp only [List.length_cons] at hfl
      have htl : t.length = s.size - (j + 1) := by rw [← ht]; simp
      have hdl : done.length ≤ 33554432 := by
        have := congrArg List.length heq
        rw [List.length_append] at this
        omega
      have hone := fun W : World => one_any f (HI0.out f (by omega)) s j ins b t W hd hs (by omega)
      have hdrop : ∀ k, t.drop k = s.data.toList.drop (j + 1 + k) := fun k => by rw [← ht, List.drop_drop]
      have hfl2 : (flushE pd).length ≤ 1 := by unfold flushE; split <;> simp
      have HF := Lib.hid hF
      have HEV := Lib.hid hev
      have HOWN := Lib.hid hown
      have HNT := Lib.hid hnt
      have HD := Lib.hid hd
      have HDR := Lib.hid hdrop
      have HT := Lib.hid ht
      have hrc := round_cases f ins b t pd
      clear hd hdrop ht hF hev hown hnt hq hg hc
      have HMM := Lib.hid hmm
      clear hmm
      rcases hrc with ⟨hM, hI⟩ | ⟨x, k, hk, hM, hI⟩ | ⟨x, k, hk, hx, hM, hI⟩ | ⟨x, M, y, k, hk, hx, hM, hI⟩
      · -- a byte of text
        rw [hM] at hone
        rw [hI] at heq
        have HEQ := Lib.hid heq
        have HONE := Lib.hid hone
        have hcc : (s.extract j (j + 1)) = ⟨#[b]⟩ := by
          apply ByteArray.ext
          apply Array.ext'
          rw [ext_list, HD.out]
          simp
        clear hM hI heq hone hb
        go_wp2_with (go_at_call 23; refine (HONE.out _).mono ?_)
        rintro e w2 v2 rfl hx1 hx2 hk2
        clear hx1 hx2
        have hz1 : (⟨#[b]⟩ : ByteArray).size = 1 := rfl
        have hadd := add_any _ done pd ⟨#[b]⟩ w2 (HEV.out.fresh hk2) HNT.out (by simp) (by omega) (by omega)
        clear hz1
        have HADD := Lib.hid hadd
        have HK2 := Lib.hid hk2
        clear hadd hk2
        go_wp2_with (go_at_call 24; refine HADD.out.mono ?_)
        rintro e w3 ⟨v3, rfl, hev3, hg3, hk3⟩
        have HEV3 := Lib.hid hev3
        have HG3 := Lib.hid hg3
        have HK3 := Lib.hid hk3
        clear hev3 hg3 hk3
        go_wp2
        go_roundw
        case rel =>
          have s1 := HF.out.size
          have s2 := HK2.out.size
          refine ⟨Fresh.grow (HF.out.tr HK2.out) HK3.out HOWN.out, j + 1, f, done, pd ++ [b], rfl, by omega, HEV3.out, HNT.out, fun k hk => ?_, by rw [HT.out]; exact HEQ.out, by omega, by rw [HT.out]; omega, by simp; omega⟩
          rcases HG3.out k hk with h | h
          · exact HOWN.out k h
          · omega
        case measure => simp [intOf]; omega
      · -- a byte that a backslash makes text
        rw [hM] at hone
        rw [hI] at heq
        have HEQ := Lib.hid heq
        have HONE := Lib.hid hone
        clear hM hI heq hone hb
        go_wp2_with (go_at_call 23; refine (HONE.out _).mono ?_)
        rintro e w2 v2 rfl hx1 hx2 hk2
        obtain ⟨p2, c2, rfl, hc2, hq2, hg2⟩ := own_form hx1
        obtain ⟨g2, rfl, -, hgl2, y0, -, -, y3⟩ := Evs.at hx1 (j := 0) (x := ⟨8, false, 0, [x]⟩) rfl
        have y0' : w2.cell? ⟨g2, 0, none⟩ = some (.int .i64 8) := y0
        have y3' : w2.cell? ⟨g2, 3, none⟩ = some (.string ⟨#[x]⟩) := y3
        have hz1 : (⟨#[x]⟩ : ByteArray).size = 1 := rfl
        have hadd := add_any _ done pd ⟨#[x]⟩ w2 (HEV.out.fresh hk2) HNT.out (by simp) (by omega) (by omega)
        clear hz1
        have HADD := Lib.hid hadd
        have HK2 := Lib.hid hk2
        clear hadd hk2 hx1 hx2 y0 y3 hq2 hg2
        go_wp2_with (go_at_call 24; refine HADD.out.mono ?_)
        rintro e w3 ⟨v3, rfl, hev3, hg3, hk3⟩
        have HEV3 := Lib.hid hev3
        have HG3 := Lib.hid hg3
        have HK3 := Lib.hid hk3
        clear hev3 hg3 hk3
        go_wp2
        go_roundw
        case rel =>
          have s1 := HF.out.size
          have s2 := HK2.out.size
          refine ⟨Fresh.grow (HF.out.tr HK2.out) HK3.out HOWN.out, j + (k + 2), f, done, pd ++ [x], by simp, by omega, HEV3.out, HNT.out, fun k hk => ?_, ?_, by omega, by simp; omega, by simp; omega⟩
          · rcases HG3.out k hk with h | h
            · exact HOWN.out k h
            · omega
          · have := HEQ.out
            rw [HDR.out, show j + 1 + (k + 1) = j + (k + 2) by omega] at this
            exact this
        case measure => simp [intOf]; omega
      · -- one event
        rw [hM] at hone
        rw [hI] at heq
        have heq' : done ++ flushE pd ++ [x] ++ inlF f ins (t.drop k) [] = R := by rw [← heq]; simp
        have HEQ := Lib.hid heq'
        have HONE := Lib.hid hone
        have ek : ((x.kind : Int) == 8) = false := by rw [beq_eq_false_iff_ne]; exact hx
        have HX := Lib.hid hx
        clear hM hI heq hone hb heq' hx
        go_wp2_with (go_at_call 23; refine (HONE.out _).mono ?_)
        rintro e w2 v2 rfl hx1 hx2 hk2
        obtain ⟨p2, c2, rfl, hc2, hq2, hg2⟩ := own_form hx1
        obtain ⟨g2, rfl, -, hgl2, y0, -, -, -⟩ := Evs.at hx1 (j := 0) (x := x) rfl
        have y0' : w2.cell? ⟨g2, 0, none⟩ = some (.int .i64 x.kind) := y0
        clear y0
        have hml : ([x] : List Ev).length = 1 := rfl
        have hcount : mm + ([x]).length ≤ 33554432 := by
          have := congrArg List.length HEQ.out
          have := HMM.out
          simp only [List.length_append] at *
          omega
        have hrow2 : w2.ownsRow 0 61 4 (.slice q mm c) mm (evCells (done ++ flushE pd)) := by
          have := HEV.out.fresh hk2
          unfold Evs at this
          rw [HMM.out] at this
          exact this
        have hcells := own_cells hx1 rfl
        have hfin : ∀ (X : World) (p : Option Addr) (c' : Nat), X.ownsRow 0 61 4 (.slice p (mm + 1) c') (mm + 1) (evCells (done ++ flushE pd) ++ evCells ([x])) → Evs X 61 (.slice p (mm + 1) c') (done ++ flushE pd ++ ([x]) ++ flushE []) := fun X p c' h => by
          unfold Evs
          rw [flushE_nil, List.append_nil, evCells_append, List.length_append, HMM.out, hml]
          exact h
        have hlen4 : (evCells ([x])).length = 1 * 4 := by rw [evCells_length, hml]
        have hnt2 : NoText (done ++ flushE pd ++ ([x])) := NoText.snoc _ HX.out
        rw [hml] at hcount
        have HROW := Lib.hid hrow2
        have HCL := Lib.hid hcells
        have HFN := Lib.hid hfin
        have HL4 := Lib.hid hlen4
        have HNT2 := Lib.hid hnt2
        have HK2 := Lib.hid hk2
        clear hx1 hx2 hrow2 hcells hfin hlen4 hnt2 hk2 hml hc2 hg2
        go_wp2_with (at_builtin; refine wpList_append_mine _ rfl _ _ 37 rfl 61 _ 4 40 Tryd.underlying37 HI.out rfl (by decide) _ _ _ rfl HROW.out _ 1 c2 (evCells ([x])) rfl HL4.out hq2 HCL.out (evCells_one' _) (by unfold maxLen; omega) (by omega) ?_)
        intro p5 c5 w5 hr5 hg5 hk5
        have hev5 := HFN.out _ _ _ hr5
        have HEV5 := Lib.hid hev5
        have HG5 := Lib.hid hg5
        have HK5 := Lib.hid hk5
        clear hr5 hev5 hg5 hk5
        go_wp2
        go_roundw
        case rel =>
          have s1 := HF.out.size
          have s2 := HK2.out.size
          refine ⟨Fresh.grow (HF.out.tr HK2.out) HK5.out HOWN.out, j + (k + 1), f, _, [], by simp, by omega, HEV5.out, HNT2.out, fun k hk => ?_, ?_, by omega, by simp; omega, by simp⟩
          · rcases HG5.out k hk with h | h
            · exact HOWN.out k h
            · omega
          · have := HEQ.out
            rw [HDR.out, show j + 1 + k = j + (k + 1) by omega] at this
            rw [← this]
            try simp
        case measure => simp [intOf]; omega
      · -- a beginning, a part, the end
        rw [hM] at hone
        rw [hI] at heq
        have heq' : done ++ flushE pd ++ (x :: (M ++ [y])) ++ inlF f ins (t.drop k) [] = R := by rw [← heq]; simp
        have HEQ := Lib.hid heq'
        have HONE := Lib.hid hone
        have HX := Lib.hid hx
        clear hM hI heq hone hb heq' hx
        go_wp2_with (go_at_call 23; refine (HONE.out _).mono ?_)
        rintro e w2 v2 rfl hx1 hx2 hk2
        obtain ⟨p2, c2, rfl, hc2, hq2, hg2⟩ := own_form hx1
        have hlong : 2 ≤ (x :: (M ++ [y])).length := by simp
        generalize hml : (x :: (M ++ [y])).length = ml at *
        have e1 : ((ml : Int) == 1) = false := by rw [beq_eq_false_iff_ne]; omega
        have hcount : mm + (x :: (M ++ [y])).length ≤ 33554432 := by
          have := congrArg List.length HEQ.out
          have := HMM.out
          simp only [List.length_append] at *
          omega
        have hrow2 : w2.ownsRow 0 61 4 (.slice q mm c) mm (evCells (done ++ flushE pd)) := by
          have := HEV.out.fresh hk2
          unfold Evs at this
          rw [HMM.out] at this
          exact this
        have hcells := own_cells hx1 rfl
        have hfin : ∀ (X : World) (p : Option Addr) (c' : Nat), X.ownsRow 0 61 4 (.slice p (mm + ml) c') (mm + ml) (evCells (done ++ flushE pd) ++ evCells (x :: (M ++ [y]))) → Evs X 61 (.slice p (mm + ml) c') (done ++ flushE pd ++ (x :: (M ++ [y])) ++ flushE []) := fun X p c' h => by
          unfold Evs
          rw [flushE_nil, List.append_nil, evCells_append, List.length_append, HMM.out, hml]
          exact h
        have hlen4 : (evCells (x :: (M ++ [y]))).length = ml * 4 := by rw [evCells_length, hml]
        have hnt2 : NoText (done ++ flushE pd ++ (x :: (M ++ [y]))) := by rw [show done ++ flushE pd ++ (x :: (M ++ [y])) = (done ++ flushE pd ++ (x :: M)) ++ [y] by simp]; exact NoText.snoc _ HX.out
        rw [hml] at hcount
        have HROW := Lib.hid hrow2
        have HCL := Lib.hid hcells
        have HFN := Lib.hid hfin
        have HL4 := Lib.hid hlen4
        have HNT2 := Lib.hid hnt2
        have HK2 := Lib.hid hk2
        clear hx1 hx2 hrow2 hcells hfin hlen4 hnt2 hk2 hml hc2 hg2
        go_wp2_with (at_builtin; refine wpList_append_mine _ rfl _ _ 37 rfl 61 _ 4 40 Tryd.underlying37 HI.out rfl (by decide) _ _ _ rfl HROW.out _ ml c2 (evCells (x :: (M ++ [y]))) rfl HL4.out hq2 HCL.out (evCells_one' _) (by unfold maxLen; omega) (by omega) ?_)
        intro p5 c5 w5 hr5 hg5 hk5
        have hev5 := HFN.out _ _ _ hr5
        have HEV5 := Lib.hid hev5
        have HG5 := Lib.hid hg5
        have HK5 := Lib.hid hk5
        clear hr5 hev5 hg5 hk5
        go_wp2
        go_roundw
        case rel =>
          have s1 := HF.out.size
          have s2 := HK2.out.size
          refine ⟨Fresh.grow (HF.out.tr HK2.out) HK5.out HOWN.out, j + (k + 1), f, _, [], by simp, by omega, HEV5.out, HNT2.out, fun k hk => ?_, ?_, by omega, by simp; omega, by simp⟩
          · rcases HG5.out k hk with h | h
            · exact HOWN.out k h
            · omega
          · have := HEQ.out
            rw [HDR.out, show j + 1 + k = j + (k + 1) by omega] at this
            rw [← this]
            try simp
        case measure => simp [intOf]; omega
    · have hd := drop_ge (s := s) (i := j) (by omega)
      have hfin : Evs wr 61 (.slice q mm c) R := by
        rw [← heq, hd]
        have : inlF f ins [] pd = flushE pd := by cases f <;> rfl
        rw [this]
        exact hev
      have HFIN := Lib.hid hfin
      have HF := Lib.hid hF
      have HOWN := Lib.hid hown
      clear hfin hF hown hev heq hd
      go_wp2
      go_ret
      exact ⟨_, rfl, HFIN.out, HOWN.out, HF.out⟩
end Go.Proofs.YtbioecifiogffaaDoor
