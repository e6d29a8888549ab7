/- proseref.one and proseref.Inline: the events of a leaf. Condition: the text has at most 2^24 bytes. -/
import Derived.Test.YtbioecifiogffaaDoorInlRef4
namespace Go.Proofs.YtbioecifiogffaaDoor
open Go.RowKit

theorem Fresh.grow {D : Nat → Prop} {a b c : World} (h : Fresh a b) (k : Keeps D b c) (hD : ∀ j, D j → a.heap.size ≤ j) : Fresh a c :=
  h.trans k (fun j hj hd => by have := hD j hd; omega)

theorem ext_list (s : ByteArray) (a b : Nat) : (s.extract a b).data.toList = (s.data.toList.drop a).take (b - a) := by
  rw [ByteArray.data_extract, Array.toList_extract, List.extract_eq_take_drop]

/-- What begins at a place, and how many bytes it takes. -/
def oneM (n : Nat) (ins : Bool) (b : UInt8) (t : List UInt8) : List Ev × Nat :=
  match tokAt ins b t with
  | (.ch _, 0) => ([], 0)
  | (.ch c, k + 1) => ([⟨8, false, 0, [c]⟩], k + 2)
  | (.one e, k) => ([e], k + 1)
  | (.sub e s i, k) => (e :: (inlF n i s [] ++ [endE e]), k + 1)

/-- Inline is as said, of texts with fewer than n bytes. -/
def InlOK (n : Nat) : Prop := ∀ (s : ByteArray) (ins : Bool) (w : World), s.size ≤ 16777216 → s.size < n →
  Calls Tryd.prog 13 #[.string s, .bool ins] w fun e w' => ∃ v, e = .returned v ∧ Evs w' 61 v (inlF n ins s.data.toList []) ∧ (∀ k, v.ownBlock = some k → w.heap.size ≤ k) ∧ Fresh w w'

theorem Evs.lit1 (w : World) (t : TypeId) (e : Ev) : Evs (w.alloc (.cells #[.int .i64 e.kind, .bool e.fin, .int .i64 e.level, .string ⟨e.text.toArray⟩] t)) t (.slice (some ⟨w.heap.size, 0, none⟩) 1 1) [e] :=
  Evs.lit w t [e] (by simp [maxLen])

theorem sub_close {w w3 w5 w7 : World} {v5 v7 : Value} {o1 o2 : Obj} (hF : Fresh w w3)
    (hgr : Grow (w3.alloc o1) (.slice (some ⟨w3.heap.size, 0, none⟩) 1 1) v5) (hk5 : Keeps (fun k => (Value.slice (some ⟨w3.heap.size, 0, none⟩) 1 1).ownBlock = some k) (w3.alloc o1) w5)
    (hgr2 : Grow (w5.alloc o2) v5 v7) (hk7 : Keeps (fun k => v5.ownBlock = some k) (w5.alloc o2) w7) : (∀ k, v7.ownBlock = some k → w.heap.size ≤ k) ∧ Fresh w w7 := by
  have s1 := hF.size
  have h5 : ∀ k, v5.ownBlock = some k → w.heap.size ≤ k := fun k hk => by
    rcases hgr k hk with h | h
    · simp [Value.ownBlock] at h; omega
    · simp at h; omega
  have F5 : Fresh w w5 := Fresh.grow (hF.alloc o1) hk5 (fun j hj => by simp [Value.ownBlock] at hj; omega)
  have s5 := F5.size
  exact ⟨fun k hk => by
    rcases hgr2 k hk with h | h
    · exact h5 k h
    · simp at h; omega, Fresh.grow (F5.alloc o2) hk7 h5⟩
theorem sub_evs {w : World} {t : TypeId} {p : Option Addr} {c : Nat} {e f : Ev} {M : List Ev} (h : w.ownsRow 0 t 4 (.slice p (1 + M.length + 1) c) (1 + M.length + 1) (evCells [e] ++ evCells M ++ f.cells)) : Evs w t (.slice p (1 + M.length + 1) c) (e :: (M ++ [f])) := by
  unfold Evs
  have e1 : evCells (e :: (M ++ [f])) = evCells [e] ++ evCells M ++ f.cells := by
    rw [show e :: (M ++ [f]) = [e] ++ M ++ [f] by simp, evCells_append, evCells_append, evCells_one f]
  have e2 : (e :: (M ++ [f])).length = 1 + M.length + 1 := by simp; omega
  rw [e1, e2]
  exact h

set_option maxHeartbeats 4000000 in
set_option maxRecDepth 100000 in
theorem one_any (n : Nat) (IH : InlOK n) (s : ByteArray) (i : Nat) (ins : Bool) (b : UInt8) (t : List UInt8) (w : World) (hd : s.data.toList.drop i = b :: t) (hs : s.size ≤ 16777216) (hn : t.length < n) :
    Calls Tryd.prog 23 #[.string s, .int .i64 i, .bool ins] w fun e w' =>
      ∃ v, e = .returned (.tuple #[v, .int .i64 ((oneM n ins b t).2 : Nat)]) ∧ Evs w' 61 v (oneM n ins b t).1 ∧ (∀ k, v.ownBlock = some k → w.heap.size ≤ k) ∧ Fresh w w' := by
  obtain ⟨hi, hb, ht⟩ := drop_cons hd
  have htl : t.length = s.size - (i + 1) := by rw [← ht]; simp
  have q : ∀ x : UInt8, (((s[i]'hi).toNat : Int) == (x.toNat : Int)) = decide (b = x) := fun x => by rw [u8_beq, hb]
  have q92 : (((s[i]'hi).toNat : Int) == 92) = decide (b = 92) := q 92
  have q10 : (((s[i]'hi).toNat : Int) == 10) = decide (b = 10) := q 10
  have q96 : (((s[i]'hi).toNat : Int) == 96) = decide (b = 96) := q 96
  have q91 : (((s[i]'hi).toNat : Int) == 91) = decide (b = 91) := q 91
  have q42 : (((s[i]'hi).toNat : Int) == 42) = decide (b = 42) := q 42
  have hnil := fun W : World => Evs.nil W 61
  have hl1 := fun (W : World) (e : Ev) => Evs.lit1 W 61 e
  have hext : ∀ k, (s.extract (i + 1) (i + 1 + k)).data.toList = t.take k := fun k => by rw [ext_list, ht, Nat.add_sub_cancel_left]
  have hext2 : ∀ k m, s.extract (i + 1 + k + 2) (i + 1 + k + 2 + m) = ⟨((t.drop (k + 2)).take m).toArray⟩ := fun k m => by
    apply ByteArray.ext
    apply Array.ext'
    rw [ext_list, Nat.add_sub_cancel_left, ← ht, List.drop_drop]
    simp [Nat.add_assoc]
  have EXT := Lib.hid hext
  have EXT2 := Lib.hid hext2
  clear hext hext2
  have NIL := Lib.hid hnil
  have LIT := Lib.hid hl1
  clear q hnil hl1
  by_cases c92 : b = 92
  · subst c92
    have z92 : (((s[i]'hi).toNat : Int) == 92) = true := q92
    have z10 : (((s[i]'hi).toNat : Int) == 10) = false := q10
    have z96 : (((s[i]'hi).toNat : Int) == 96) = false := q96
    have z91 : (((s[i]'hi).toNat : Int) == 91) = false := q91
    have z42 : (((s[i]'hi).toNat : Int) == 42) = false := q42
    clear q92 q10 q96 q91 q42 IH hd hb
    by_cases h1 : i + 1 < s.size
    · rw [drop_lt h1] at ht
      obtain ⟨c, hc⟩ : ∃ c, s[i + 1]'h1 = c := ⟨_, rfl⟩
      have e10 : (((s[i + 1]'h1).toNat : Int) == 10) = decide (s[i + 1]'h1 = 10) := u8_beq _ 10
      have hsg := fun W : World => sign_any (s[i + 1]'h1) W
      rw [hc] at ht
      have hct : ∃ r, t = c :: r := ⟨_, ht.symm⟩
      obtain ⟨r, rfl⟩ := hct
      clear ht htl
      by_cases k10 : c = 10
      · subst k10
        have hM : oneM n ins 92 (10 :: r) = ([⟨11, false, 0, []⟩], 2) := by simp [oneM, tokAt, sgn]
        rw [hM]
        have e11 : (((s[i + 1]'h1).toNat : Int) == 10) = true := by rw [e10, hc]; rfl
        clear hM e10 hsg hc
        go_enter Tryd.func23, Tryd.ntmps23
        go_wp2
        refine bodyPost_ret (v := .tuple #[.slice (some ⟨w.heap.size, 0, none⟩) 1 1, .int .i64 2]) (by simp [results, Tryd.results23, go_sem]) rfl ?_
        exact ⟨_, rfl, LIT.out _ ⟨11, false, 0, []⟩, fun k hk => by cases hk; exact Nat.le_refl _, (Keeps.refl _ w).alloc _⟩
      · have e11 : (((s[i + 1]'h1).toNat : Int) == 10) = false := by rw [e10, hc]; exact decide_eq_false k10
        clear e10
        rw [hc] at hsg
        have hcc : (s.extract (i + 1) (i + 2)) = ⟨#[c]⟩ := by
          apply ByteArray.ext
          apply Array.ext'
          rw [ext_list, drop_lt h1, hc]
          simp
        have HC := Lib.hid hc
        cases hg : sgn c with
        | false =>
          have hM : oneM n ins 92 (c :: r) = ([], 0) := by simp [oneM, tokAt, hg, k10]
          rw [hM]
          rw [hg] at hsg
          have HSG := Lib.hid hsg
          clear hM k10 hg hsg hc
          go_enter Tryd.func23, Tryd.ntmps23
          go_wp2_with (go_at_call 41; rw [HC.out]; refine (HSG.out _).mono ?_)
          rintro e w2 ⟨rfl, hk2⟩
          go_wp2
          refine bodyPost_ret (v := .tuple #[.slice none 0 0, .int .i64 0]) (by simp [results, Tryd.results23, go_sem]) rfl ?_
          exact ⟨_, rfl, NIL.out _, (fun k hk => by cases hk), hk2⟩
        | true =>
          have hM : oneM n ins 92 (c :: r) = ([⟨8, false, 0, [c]⟩], 2) := by simp [oneM, tokAt, hg]
          rw [hM]
          rw [hg] at hsg
          have HSG := Lib.hid hsg
          clear hM k10 hg hsg hc
          go_enter Tryd.func23, Tryd.ntmps23
          go_wp2_with (go_at_call 41; rw [HC.out]; refine (HSG.out _).mono ?_)
          rintro e w2 ⟨rfl, hk2⟩
          go_wp2
          refine bodyPost_ret (v := .tuple #[.slice (some ⟨w2.heap.size, 0, none⟩) 1 1, .int .i64 2]) (by simp [results, Tryd.results23, go_sem]) rfl ?_
          exact ⟨_, rfl, LIT.out _ ⟨8, false, 0, [c]⟩, (fun k hk => by cases hk; exact hk2.size), hk2.alloc _⟩
    · have htn : t = [] := by rw [← ht]; exact drop_ge (by omega)
      subst htn
      have hM : oneM n ins 92 [] = ([], 0) := by simp [oneM, tokAt]
      rw [hM]
      clear hM ht htl
      go_enter Tryd.func23, Tryd.ntmps23
      go_wp2
      refine bodyPost_ret (v := .tuple #[.slice none 0 0, .int .i64 0]) (by simp [results, Tryd.results23, go_sem]) rfl ?_
      exact ⟨_, rfl, NIL.out _, (fun k hk => by cases hk), Keeps.refl _ _⟩
  have z92 : (((s[i]'hi).toNat : Int) == 92) = false := q92.trans (decide_eq_false c92)
  clear q92
  by_cases c10 : b = 10
  · subst c10
    have z10 : (((s[i]'hi).toNat : Int) == 10) = true := q10
    have hM : oneM n ins 10 t = ([⟨10, false, 0, []⟩], 1) := by simp [oneM, tokAt]
    rw [hM]
    clear q10 q96 q91 q42 IH hd hb hM ht htl
    go_enter Tryd.func23, Tryd.ntmps23
    go_wp2
    refine bodyPost_ret (v := .tuple #[.slice (some ⟨w.heap.size, 0, none⟩) 1 1, .int .i64 1]) (by simp [results, Tryd.results23, go_sem]) rfl ?_
    exact ⟨_, rfl, LIT.out _ ⟨10, false, 0, []⟩, fun k hk => by cases hk; exact Nat.le_refl _, (Keeps.refl _ w).alloc _⟩
  have z10 : (((s[i]'hi).toNat : Int) == 10) = false := q10.trans (decide_eq_false c10)
  clear q10
  by_cases c96 : b = 96
  · subst c96
    have z96 : (((s[i]'hi).toNat : Int) == 96) = true := q96
    have hfind := fun W : World => find_any s 96 (i + 1) W (by omega) (by omega)
    rw [ht] at hfind
    clear q96 q91 q42 IH hd hb ht
    cases hf : fnd 96 t with
    | none =>
      have hM : oneM n ins 96 t = ([], 0) := by simp [oneM, tokAt, hf]
      rw [hM]
      rw [hf] at hfind
      have hpl : plc (i + 1) none = -1 := rfl
      rw [hpl] at hfind
      have HF := Lib.hid hfind
      clear hM hf hfind hpl
      go_enter Tryd.func23, Tryd.ntmps23
      go_wp2_with (go_at_call 42; refine (HF.out _).mono ?_)
      rintro e w2 ⟨rfl, hk2⟩
      go_wp2
      refine bodyPost_ret (v := .tuple #[.slice none 0 0, .int .i64 0]) (by simp [results, Tryd.results23, go_sem]) rfl ?_
      exact ⟨_, rfl, NIL.out _, (fun k hk => by cases hk), hk2⟩
    | some k =>
      have hkl := fnd_lt hf
      have hM : oneM n ins 96 t = ([⟨9, false, 0, spc (t.take k)⟩], k + 2) := by simp [oneM, tokAt, hf]
      rw [hM]
      rw [hf] at hfind
      have hpl : plc (i + 1) (some k) = (i + 1 + k : Nat) := rfl
      rw [hpl] at hfind
      have HF := Lib.hid hfind
      have hsp : ∀ W : World, Calls Tryd.prog 43 #[.string (s.extract (i + 1) (i + 1 + k))] W fun e w' => e = .returned (.string ⟨(spc (t.take k)).toArray⟩) ∧ Fresh W w' := fun W => by
        have h := spaced_any (s.extract (i + 1) (i + 1 + k)) W (by simp; omega)
        have e1 : (s.extract (i + 1) (i + 1 + k)).data.toList = t.take k := by
          exact EXT.out k
        rw [e1] at h
        exact h
      have HSP := Lib.hid hsp
      clear hM hf hfind hpl hsp
      go_enter Tryd.func23, Tryd.ntmps23
      go_wp2_with (go_at_call 42; refine (HF.out _).mono ?_)
      rintro e w2 ⟨rfl, hk2⟩
      go_wp2_with (go_at_call 43; refine (HSP.out _).mono ?_)
      rintro e w3 ⟨rfl, hk3⟩
      go_wp2
      refine bodyPost_ret (v := .tuple #[.slice (some ⟨w3.heap.size, 0, none⟩) 1 1, .int .i64 (k + 2 : Nat)]) (by simp [results, Tryd.results23, go_sem]; omega) rfl ?_
      exact ⟨_, rfl, LIT.out _ ⟨9, false, 0, spc (t.take k)⟩, (fun k hk => by cases hk; exact Nat.le_trans hk2.size hk3.size), (hk2.tr hk3).alloc _⟩
  have z96 : (((s[i]'hi).toNat : Int) == 96) = false := q96.trans (decide_eq_false c96)
  clear q96
  by_cases c91 : b = 91
  · subst c91
    have z91 : (((s[i]'hi).toNat : Int) == 91) = true := q91
    have hlk := fun W : World => link_any s i t W hd (by omega)
    clear q91 q42 hd hb ht
    cases hl : lnk t with
    | none =>
      have hM : oneM n ins 91 t = ([], 0) := by simp [oneM, tokAt, hl]
      rw [hM]
      rw [hl] at hlk
      have HL := Lib.hid hlk
      clear hM hl hlk IH
      go_enter Tryd.func23, Tryd.ntmps23
      go_wp2_with (go_at_call 44; refine (HL.out _).mono ?_)
      rintro e w2 ⟨rfl, hk2⟩
      unfold lres
      go_wp2
      refine bodyPost_ret (v := .tuple #[.slice none 0 0, .int .i64 0]) (by simp [results, Tryd.results23, go_sem]) rfl ?_
      exact ⟨_, rfl, NIL.out _, (fun k hk => by cases hk), hk2⟩
    | some km =>
      obtain ⟨k, m⟩ := km
      have hkl := lnk_lt hl
      have hM : oneM n ins 91 t = (⟨7, false, 0, (t.drop (k + 2)).take m⟩ :: (inlF n ins (t.take k) [] ++ [endE ⟨7, false, 0, (t.drop (k + 2)).take m⟩]), k + m + 4) := by simp [oneM, tokAt, hl]
      rw [hM]
      rw [hl] at hlk
      have HL := Lib.hid hlk
      have hin := fun W : World => IH (s.extract (i + 1) (i + 1 + k)) ins W (by simp; omega) (by simp; omega)
      rw [EXT.out k] at hin
      have hcount := inlF_length n ins (t.take k) []
      rw [flushE_nil, List.length_nil, List.length_take] at hcount
      have hm1 : min k t.length ≤ 16777216 := by omega
      generalize inlF n ins (t.take k) [] = M at *
      have hML : M.length ≤ 33554432 := by omega
      have HIN := Lib.hid hin
      have hx2 := EXT2.out k m
      generalize (t.drop (k + 2)).take m = T at *
      clear hM hl hlk IH hin hcount hm1
      go_enter Tryd.func23, Tryd.ntmps23
      go_wp2_with (go_at_call 44; refine (HL.out _).mono ?_)
      rintro e w2 ⟨rfl, hk2⟩
      unfold lres
      go_wp2_with (go_at_call 13; refine (HIN.out _).mono ?_)
      rintro e w3 ⟨vin, rfl, hev, hown, hk3⟩
      obtain ⟨p, c, rfl, hc, hpn, -⟩ := own_form hev
      have hcells := own_cells hev rfl
      have hnews : ∀ X : World, Fresh w3 X → ∀ ad, p = some ad → ∀ j u, (evCells M)[j]? = some u → X.cell? (ad.add j) = some u := fun X hX ad had j u hu => hX.cell_some (hcells ad had j u hu) (fun h => h)
      have hF3 : Fresh w w3 := hk2.tr hk3
      have HC := Lib.hid hnews
      have HF3 := Lib.hid hF3
      have HI := Lib.hid Tryd.infoRE
      clear hcells hnews hev hown hF3 hk2 hk3 hc
      go_wp2_with (at_builtin; refine wpList_append_mine _ rfl _ _ 37 rfl 61 _ 4 40 Tryd.underlying37 HI.out rfl (by decide) _ _ _ rfl (LIT.out w3 ⟨7, false, 0, T⟩) p M.length c (evCells M) rfl (evCells_length M) hpn (HC.out _ ((Keeps.refl _ _).alloc _)) (evCells_one' M) (by unfold maxLen; simp only [List.length_cons, List.length_nil]; omega) (by simp only [List.length_cons, List.length_nil]; omega) ?_)
      intro p5 c5 w5 hr5 hg5 hk5
      have hr5' : ∀ X : World, Fresh w5 X → X.ownsRow 0 61 4 (.slice p5 (1 + M.length) c5) (1 + M.length) (evCells [⟨7, false, 0, T⟩] ++ evCells M) := fun X hX => own_kept hr5 hX (fun _ _ h => h)
      have HR5 := Lib.hid hr5'
      have HG5 := Lib.hid hg5
      have HK5 := Lib.hid hk5
      have hnew := ev_new w5 (endE ⟨7, false, 0, T⟩) 61
      have HNEW := Lib.hid hnew
      clear hr5 hg5 hk5 hr5' hnew
      go_wp2_with (at_builtin; refine wpList_append_mine _ rfl _ _ 37 rfl 61 _ 4 40 Tryd.underlying37 HI.out rfl (by decide) _ _ _ rfl (HR5.out _ ((Keeps.refl _ _).alloc _)) (some ⟨w5.heap.size, 0, none⟩) 1 1 (endE ⟨7, false, 0, T⟩).cells rfl rfl (fun h => (by cases h)) HNEW.out (ev_one _) (by unfold maxLen; omega) (by omega) ?_)
      intro p7 c7 w7 hr7 hg7 hk7
      have hcl := sub_close HF3.out HG5.out HK5.out hg7 hk7
      have HCL := Lib.hid hcl
      have HEV := Lib.hid (sub_evs hr7)
      clear hr7 hg7 hk7 hcl
      go_wp2
      refine bodyPost_ret (v := .tuple #[.slice p7 (1 + M.length + 1) c7, .int .i64 (k + m + 4 : Nat)]) (by simp [results, Tryd.results23, go_sem]; omega) rfl ?_
      exact ⟨_, rfl, HEV.out, HCL.out.1, HCL.out.2⟩
  have z91 : (((s[i]'hi).toNat : Int) == 91) = false := q91.trans (decide_eq_false c91)
  clear q91
  by_cases c42 : b = 42
  · subst c42
    have z42 : (((s[i]'hi).toNat : Int) == 42) = true := q42
    have hpa := fun W : World => partner_any s i t W hd (by omega)
    clear q42 hd hb ht
    cases ins with
    | true =>
      have hM : oneM n true 42 t = ([], 0) := by simp [oneM, tokAt]
      rw [hM]
      clear hM hpa IH
      go_enter Tryd.func23, Tryd.ntmps23
      go_wp2
      refine bodyPost_ret (v := .tuple #[.slice none 0 0, .int .i64 0]) (by simp [results, Tryd.results23, go_sem]) rfl ?_
      exact ⟨_, rfl, NIL.out _, (fun k hk => by cases hk), Keeps.refl _ _⟩
    | false =>
    cases hl : str t with
    | none =>
      have hM : oneM n false 42 t = ([], 0) := by simp [oneM, tokAt, hl]
      rw [hM]
      rw [hl] at hpa
      have hpl : plc (i + 1) none = -1 := rfl
      rw [hpl] at hpa
      have HL := Lib.hid hpa
      clear hM hl hpa IH hpl
      go_enter Tryd.func23, Tryd.ntmps23
      go_wp2_with (go_at_call 45; refine (HL.out _).mono ?_)
      rintro e w2 ⟨rfl, hk2⟩
      go_wp2
      refine bodyPost_ret (v := .tuple #[.slice none 0 0, .int .i64 0]) (by simp [results, Tryd.results23, go_sem]) rfl ?_
      exact ⟨_, rfl, NIL.out _, (fun k hk => by cases hk), hk2⟩
    | some k =>
      have hkl := str_lt hl
      have hM : oneM n false 42 t = (⟨6, false, 0, []⟩ :: (inlF n true (t.take k) [] ++ [endE ⟨6, false, 0, []⟩]), k + 2) := by simp [oneM, tokAt, hl]
      rw [hM]
      rw [hl] at hpa
      have hpl : plc (i + 1) (some k) = (i + 1 + k : Nat) := rfl
      rw [hpl] at hpa
      have HL := Lib.hid hpa
      have hin := fun W : World => IH (s.extract (i + 1) (i + 1 + k)) true W (by simp; omega) (by simp; omega)
      rw [EXT.out k] at hin
      have hcount := inlF_length n true (t.take k) []
      rw [flushE_nil, List.length_nil, List.length_take] at hcount
      have hm1 : min k t.length ≤ 16777216 := by omega
      generalize inlF n true (t.take k) [] = M at *
      have hML : M.length ≤ 33554432 := by omega
      have HIN := Lib.hid hin
      clear hM hl hpa IH hin hcount hm1 hpl
      go_enter Tryd.func23, Tryd.ntmps23
      go_wp2_with (go_at_call 45; refine (HL.out _).mono ?_)
      rintro e w2 ⟨rfl, hk2⟩
      go_wp2_with (go_at_call 13; refine (HIN.out _).mono ?_)
      rintro e w3 ⟨vin, rfl, hev, hown, hk3⟩
      obtain ⟨p, c, rfl, hc, hpn, -⟩ := own_form hev
      have hcells := own_cells hev rfl
      have hnews : ∀ X : World, Fresh w3 X → ∀ ad, p = some ad → ∀ j u, (evCells M)[j]? = some u → X.cell? (ad.add j) = some u := fun X hX ad had j u hu => hX.cell_some (hcells ad had j u hu) (fun h => h)
      have hF3 : Fresh w w3 := hk2.tr hk3
      have HC := Lib.hid hnews
      have HF3 := Lib.hid hF3
      have HI := Lib.hid Tryd.infoRE
      clear hcells hnews hev hown hF3 hk2 hk3 hc
      go_wp2_with (at_builtin; refine wpList_append_mine _ rfl _ _ 37 rfl 61 _ 4 40 Tryd.underlying37 HI.out rfl (by decide) _ _ _ rfl (LIT.out w3 ⟨6, false, 0, []⟩) p M.length c (evCells M) rfl (evCells_length M) hpn (HC.out _ ((Keeps.refl _ _).alloc _)) (evCells_one' M) (by unfold maxLen; simp only [List.length_cons, List.length_nil]; omega) (by simp only [List.length_cons, List.length_nil]; omega) ?_)
      intro p5 c5 w5 hr5 hg5 hk5
      have hr5' : ∀ X : World, Fresh w5 X → X.ownsRow 0 61 4 (.slice p5 (1 + M.length) c5) (1 + M.length) (evCells [⟨6, false, 0, []⟩] ++ evCells M) := fun X hX => own_kept hr5 hX (fun _ _ h => h)
      have HR5 := Lib.hid hr5'
      have HG5 := Lib.hid hg5
      have HK5 := Lib.hid hk5
      have hnew := ev_new w5 (endE ⟨6, false, 0, []⟩) 61
      have HNEW := Lib.hid hnew
      clear hr5 hg5 hk5 hr5' hnew
      go_wp2_with (at_builtin; refine wpList_append_mine _ rfl _ _ 37 rfl 61 _ 4 40 Tryd.underlying37 HI.out rfl (by decide) _ _ _ rfl (HR5.out _ ((Keeps.refl _ _).alloc _)) (some ⟨w5.heap.size, 0, none⟩) 1 1 (endE ⟨6, false, 0, []⟩).cells rfl rfl (fun h => (by cases h)) HNEW.out (ev_one _) (by unfold maxLen; omega) (by omega) ?_)
      intro p7 c7 w7 hr7 hg7 hk7
      have hcl := sub_close HF3.out HG5.out HK5.out hg7 hk7
      have HCL := Lib.hid hcl
      have HEV := Lib.hid (sub_evs hr7)
      clear hr7 hg7 hk7 hcl
      go_wp2
      refine bodyPost_ret (v := .tuple #[.slice p7 (1 + M.length + 1) c7, .int .i64 (k + 2 : Nat)]) (by simp [results, Tryd.results23, go_sem]; omega) rfl ?_
      exact ⟨_, rfl, HEV.out, HCL.out.1, HCL.out.2⟩
  have z42 : (((s[i]'hi).toNat : Int) == 42) = false := q42.trans (decide_eq_false c42)
  have hM : oneM n ins b t = ([], 0) := by simp [oneM, tokAt, c92, c10, c96, c91, c42]
  rw [hM]
  clear hM q42 IH hd hb ht
  go_enter Tryd.func23, Tryd.ntmps23
  go_wp2
  refine bodyPost_ret (v := .tuple #[.slice none 0 0, .int .i64 0]) (by simp [results, Tryd.results23, go_sem]) rfl ?_
  exact ⟨_, rfl, NIL.out _, (fun k hk => by cases hk), Keeps.refl _ _⟩
end Go.Proofs.YtbioecifiogffaaDoor
