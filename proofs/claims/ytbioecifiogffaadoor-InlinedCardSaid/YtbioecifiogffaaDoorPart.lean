/- inline: step at any byte; part; Find. Condition: the text has at most 2^24 bytes. -/
import Derived.Test.YtbioecifiogffaaDoorScan9
namespace Go.Proofs.YtbioecifiogffaaDoor
open Go.RowKit

theorem step_any (n : Nat) (IH : PartOK n) (C Bo : Nat) (v vo : Value) (s : ByteArray) (i : Nat) (ins : Bool) (p : List UInt8) (L : List Ev) (w : World) (h : Scan w C Bo v vo s i ins p L) (hG : Gl w) (hH : Hi (ScanD C Bo v vo)) (hs : s.size ≤ 16777216) (hp : p.length ≤ 16777216)
    (b : UInt8) (t : List UInt8) (hi : i < s.size) (ht : s.data.toList.drop (i + 1) = t) (hn : t.length ≤ n) (hL : L.length + (flushE p).length + 1 + 2 * t.length ≤ 1000000000) :
    Calls Tryd.prog 69 #[.pointer (some ⟨C, 0, none⟩), .int .u8 b.toNat] w (StepPost n C Bo v vo s i ins p L w (tokAt ins b t)) := by
  have hL1 : L.length ≤ 1000000000 := by omega
  by_cases b1 : b = 92
  · subst b1
    cases t with
    | nil => exact step_bs n C Bo v vo s i ins p L w h hs hp hL1 [] hi ht rfl rfl
    | cons c t' =>
      cases hc : sgn c with
      | true =>
        have e : tokAt ins 92 (c :: t') = (.ch c, 1) := by simp [tokAt, hc]
        rw [e]
        exact step_esc n C Bo v vo s i ins p L w h hs hp c t' hi ht hc
      | false =>
        by_cases h10 : c = 10
        · subst h10
          have e : tokAt ins 92 (10 :: t') = (.one ⟨11, false, 0, []⟩, 1) := by simp [tokAt, hc]
          rw [e]
          exact step_hard n C Bo v vo s i ins p L w h hs hp hL1 _ hi ht t' rfl
        · have e : tokAt ins 92 (c :: t') = (.ch 92, 0) := by simp [tokAt, hc, h10]
          rw [e]
          exact step_bs n C Bo v vo s i ins p L w h hs hp hL1 _ hi ht hc (by rw [hasPrefix_cons]; exact decide_eq_false h10)
  · by_cases b2 : b = 10
    · subst b2
      have e : tokAt ins 10 t = (.one ⟨10, false, 0, []⟩, 0) := by simp [tokAt]
      rw [e]
      exact step_nl n C Bo v vo s i ins p L w h hs hp hL1 t hi ht
    · by_cases b3 : b = 96
      · subst b3
        cases hf : fnd 96 t with
        | none =>
          have e : tokAt ins 96 t = (.ch 96, 0) := by simp [tokAt, hf]
          rw [e]
          exact step_code_no n C Bo v vo s i ins p L w h hs hp hL1 t hi ht hf hG
        | some k =>
          have e : tokAt ins 96 t = (.one ⟨9, false, 0, spc (t.take k)⟩, k + 1) := by simp [tokAt, hf]
          rw [e]
          exact step_code n C Bo v vo s i ins p L w h hs hp hL1 t hi ht k hf hG
      · by_cases b4 : b = 91
        · subst b4
          cases hf : lnk t with
          | none =>
            have e : tokAt ins 91 t = (.ch 91, 0) := by simp [tokAt, hf]
            rw [e]
            exact step_link_no n C Bo v vo s i ins p L w h hs hp hL1 t hi ht hG hf
          | some km =>
            obtain ⟨k, m⟩ := km
            have e : tokAt ins 91 t = (.sub ⟨7, false, 0, (t.drop (k + 2)).take m⟩ (t.take k) ins, k + m + 3) := by simp [tokAt, hf]
            rw [e]
            exact step_link n C Bo v vo s i ins p L w h hs hp hL1 t hi ht hH IH hn hL hG k m hf
        · by_cases b5 : b = 42
          · subst b5
            cases ins with
            | true =>
              have e : tokAt true 42 t = (.ch 42, 0) := by simp [tokAt]
              rw [e]
              exact step_star_in n C Bo v vo s i true p L w h hs hp hL1 t hi ht rfl
            | false =>
              cases hf : str t with
              | none =>
                have e : tokAt false 42 t = (.ch 42, 0) := by simp [tokAt, hf]
                rw [e]
                exact step_star_no n C Bo v vo s i false p L w h hs hp hL1 t hi ht rfl hf
              | some m =>
                have e : tokAt false 42 t = (.sub ⟨6, false, 0, []⟩ (t.take m) true, m + 1) := by simp [tokAt, hf]
                rw [e]
                exact step_star n C Bo v vo s i false p L w h hs hp hL1 t hi ht hG hH IH hn hL rfl m hf
          · have e : tokAt ins b t = (.ch b, 0) := by simp [tokAt, b1, b2, b3, b4, b5]
            rw [e]
            exact step_other n C Bo v vo s i ins p L w h hs hp hL1 t hi ht b b1 b2 b3 b4 b5

/-- What part's loop keeps. -/
def PartInv (n C Bo : Nat) (vo0 : Value) (s : ByteArray) (ins : Bool) (L0 R : List Ev) (w0 : World) (j : Nat) (wr : World) : Prop :=
  ∃ (v vo : Value) (f : Nat) (M : List Ev) (p : List UInt8), Scan wr C Bo v vo s j ins p M ∧ Gl wr ∧ Hi (ScanD C Bo v vo) ∧ M ++ inlF f ins (s.data.toList.drop j) p = R ∧ (s.data.toList.drop j).length < f ∧ f ≤ n ∧ p.length ≤ j ∧ j ≤ s.size ∧
    M.length + (flushE p).length ≤ L0.length + 2 * j ∧ Mv (OutD Bo vo0) (ScanD C Bo v vo) w0 wr

theorem PartInv.step {n C Bo : Nat} {vo0 v vo v' vo' : Value} {s : ByteArray} {ins : Bool} {L0 R M' : List Ev} {w0 wr w' : World} {j k f : Nat} {p' t : List UInt8} (hG : Gl wr) (hH : Hi (ScanD C Bo v vo)) (hmv0 : Mv (OutD Bo vo0) (ScanD C Bo v vo) w0 wr)
    (hs' : Scan w' C Bo v' vo' s (j + 1 + k) ins p' M') (hm : Mv (ScanD C Bo v vo) (ScanD C Bo v' vo') wr w') (ht : s.data.toList.drop (j + 1) = t) (hk : k ≤ t.length) (heq : M' ++ inlF f ins (t.drop k) p' = R) (hfl : t.length < f) (hfn : f ≤ n) (hjs : j < s.size)
    (hp' : p'.length ≤ j + 1 + k) (hM' : M'.length + (flushE p').length ≤ L0.length + 2 * (j + 1 + k)) : PartInv n C Bo vo0 s ins L0 R w0 (j + 1 + k) w' := by
  obtain ⟨hG', hH'⟩ := hG.mv hm hH
  have htl : t.length = s.size - (j + 1) := by rw [← ht]; simp
  have hd : s.data.toList.drop (j + 1 + k) = t.drop k := by rw [← ht, List.drop_drop]
  refine ⟨v', vo', f, M', p', hs', hG', hH', by rw [hd]; exact heq, ?_, hfn, hp', by omega, hM', hmv0.trans hm⟩
  rw [hd, List.length_drop]
  omega
theorem tok_ch0 {ins : Bool} {b c : UInt8} {t : List UInt8} (h : tokAt ins b t = (.ch c, 0)) : c = b := by
  unfold tokAt at h
  repeat' split at h
  all_goals simp_all
theorem tok_ch {ins : Bool} {b c : UInt8} {t : List UInt8} {k : Nat} (h : tokAt ins b t = (.ch c, k)) : k ≤ t.length := by
  unfold tokAt at h
  repeat' split at h
  all_goals simp_all
  all_goals omega

set_option maxHeartbeats 4000000 in
set_option maxRecDepth 100000 in
theorem part_any (n : Nat) : PartOK n := by
  induction n using Nat.strongRecOn with
  | ind n IH =>
  intro s ins Bo vo L w hb he hn hs hL hG hH
  obtain ⟨R, hR⟩ : ∃ R, R = L ++ inlF n ins s.data.toList [] := ⟨_, rfl⟩
  rw [← hR]
  have hsl : s.data.toList.length = s.size := by simp
  obtain ⟨W, hW⟩ : ∃ W, W = w.alloc (.cells #[.string s, .int .i64 0, .bool ins, .slice none 0 0, .pointer (some ⟨Bo, 0, none⟩)] 144) := ⟨_, rfl⟩
  have hF : Fresh w W := by rw [hW]; exact (Keeps.refl _ w).alloc _
  have hS0 : Scan W w.heap.size Bo (.slice none 0 0) vo s 0 ins [] L := ⟨by rw [hW]; exact heap_alloc_new w _, hF.heap_some hb (fun h => h), World.ownsRow_nil _ _ _ _, he.fresh hF⟩
  have hI0 : PartInv n w.heap.size Bo vo s ins L R w 0 W := by
    refine ⟨_, _, n, L, [], hS0, hG.fresh hF, fun k hk => ?_, by rw [List.drop_zero, hR], by rw [List.drop_zero, hsl]; exact hn, Nat.le_refl _, Nat.le_refl _, Nat.zero_le _, by rw [flushE_nil]; simp, hF.mono (fun _ _ h => h.elim), fun k hk => ?_⟩
    · rcases hk with h | h | h | h
      · rw [h]; exact hG.2
      · exact hH k (.inl h)
      · cases h
      · exact hH k (.inr h)
    · rcases hk with h | h | h | h
      · exact .inr (by rw [h]; exact Nat.le_refl _)
      · exact .inl (.inl h)
      · cases h
      · exact .inl (.inr h)
  have hlt : w.heap.size < W.heap.size := by rw [hW]; simp
  generalize hC : w.heap.size = C at *
  have HI0 := Lib.hid hI0
  have HIH := Lib.hid IH
  have HSL := Lib.hid hsl
  clear hI0 IH hsl hS0 hF hb he hG hH hR
  go_enter Tryd.func61, Tryd.ntmps61
  go_upto_region 1 with fail
  rw [← hW]
  clear hW hC
  go_loopg [12] s.size (fun g _ wr => ∃ j, j + g = s.size ∧ PartInv n C Bo vo s ins L R w j wr)
  case atStart => exact ⟨0, by omega, HI0.out⟩
  case round =>
    obtain ⟨j, hj, v, vo1, f, M, p, hsc, hG, hH, heq, hfl, hfn, hpl, hjs, hMl, hmv⟩ := hrel
    obtain ⟨c0, c1, c2, c3, c4, o0, hfC, hfB⟩ := hsc.cells
    cases gk with
    | zero =>
      obtain rfl : j = s.size := by omega
      have hd := drop_ge (s := s) (i := s.size) (Nat.le_refl _)
      rw [hd] at heq
      have hfe : inlF f ins [] p = flushE p := by cases f <;> rfl
      rw [hfe] at heq
      have hfl2 := flush_any C Bo v vo1 s s.size ins p M wr hsc (by omega) (by omega)
      rw [heq] at hfl2
      have HFL := Lib.hid hfl2
      have HMV := Lib.hid hmv
      clear hfl2 hmv hsc hG hH heq hfl hfn hpl hjs hMl hd hfe hfC hfB
      go_wp2_with fail
      refine HFL.out.mono ?_
      rintro r w2 ⟨rfl, v2, vo2, hs2, hm2⟩
      have hm3 : Mv (OutD Bo vo) (OutD Bo vo2) w w2 := by
        have h5 := HMV.out.trans hm2
        exact ⟨h5.1, fun k hk => h5.2 k (hk.elim (fun h => .inr (.inl h)) (fun h => .inr (.inr (.inr h))))⟩
      have HS2 := Lib.hid hs2
      have HM3 := Lib.hid hm3
      clear hs2 hm2 hm3
      go_wp2
      go_end0
      exact ⟨rfl, _, HS2.out.out, HS2.out.evs, HM3.out⟩
    | succ g =>
      have hlt : j < s.size := by omega
      have hd := drop_lt hlt
      obtain ⟨b, hb⟩ : ∃ b, s[j]'hlt = b := ⟨_, rfl⟩
      obtain ⟨t, ht⟩ : ∃ t, s.data.toList.drop (j + 1) = t := ⟨_, rfl⟩
      rw [hb, ht] at hd
      rw [hd] at heq hfl
      simp only [List.length_cons] at hfl
      obtain ⟨f, rfl⟩ : ∃ k, f = k + 1 := ⟨f - 1, by omega⟩
      have htl : t.length = s.size - (j + 1) := by rw [← ht]; simp
      have hst := step_any f (HIH.out f (by omega)) C Bo v vo1 s j ins p M wr hsc hG hH hs (by omega) b t hlt ht (by omega) (by omega)
      have HST := Lib.hid hst
      clear hst hd
      go_wp2_with fail
      refine HST.out.mono ?_
      intro r w2 hpost
      have HG := Lib.hid hG
      have HH := Lib.hid hH
      have HMV := Lib.hid hmv
      have HT := Lib.hid ht
      have HS := Lib.hid hsc
      have hfp := flushE_le p
      clear hG hH hmv ht hfB hsc c2 c4 o0
      simp only [inlF] at heq
      cases htk : tokAt ins b t with
      | mk tk k =>
      rw [htk] at hpost heq
      cases tk with
      | ch c =>
        have hkl := tok_ch htk
        cases k with
        | zero =>
          obtain rfl := tok_ch0 htk
          obtain ⟨rfl, hk2⟩ := hpost
          have hS2 := HS.out.fresh hk2
          have hs0 : TextS C v j w2.drew := TextS.kept ⟨c3, c1⟩ (hk2.tr ((Keeps.refl _ w2).drew)) (fun h => h)
          have hmF : Mv (ScanD C Bo v vo1) (ScanD C Bo v vo1) wr w2 := Mv.fresh hk2
          have HHH := Lib.hid (show M ++ inlF f ins (t.drop 0) (p ++ [c]) = R from heq)
          have H2 := Lib.hid hS2
          have HMF := Lib.hid hmF
          have HI := Lib.hid Tryd.infoU8
          have hj0 : (j : Int) < (s.size : Int) := by omega
          clear hk2 hS2 hmF heq htk c0 c1 c3 hfC
          go_upto_region 3 with fail
          refine wp_region_K 15 (TextS C v j) (by kernel_rfl) ?_
          have hHeld := hs0
          clear hs0
          refine K_take (i := 0) (v := ?_) rfl (by kernel_rfl) (by kernel_rfl) (by kernel_rfl) (by kernel_rfl) (by kernel_rfl) (fun _ _ _ h => h) (Or.inl ⟨by rfl, ?_⟩) (by assumption) ?_
          rotate_left
          · (intro _ hSw; (obtain ⟨hS1, hS2⟩ := hSw); first | (go_simp; done) | (go_simp; with_reducible rfl))
          try simp only [Act.put, List.setIfInBounds_toArray, List.set_cons_zero, List.set_cons_succ]
          refine K_take (i := 1) (v := ?_) rfl (by kernel_rfl) (by kernel_rfl) (by kernel_rfl) (by kernel_rfl) (by kernel_rfl) (fun _ _ _ h => h) (Or.inl ⟨by rfl, ?_⟩) (by assumption) ?_
          rotate_left
          · (intro _ hSw; (obtain ⟨hS1, hS2⟩ := hSw); first | (go_simp; done) | (go_simp; with_reducible rfl))
          try simp only [Act.put, List.setIfInBounds_toArray, List.set_cons_zero, List.set_cons_succ]
          refine K_take (i := 2) (v := ?_) rfl (by kernel_rfl) (by kernel_rfl) (by kernel_rfl) (by kernel_rfl) (by kernel_rfl) (fun _ _ _ h => h) (Or.inl ⟨by rfl, ?_⟩) (by assumption) ?_
          rotate_left
          · (intro _ hSw; (obtain ⟨hS1, hS2⟩ := hSw); first | (go_simp; done) | (go_simp; with_reducible rfl))
          try simp only [Act.put, List.setIfInBounds_toArray, List.set_cons_zero, List.set_cons_succ]
          refine K_take (i := 3) (v := ?_) rfl (by kernel_rfl) (by kernel_rfl) (by kernel_rfl) (by kernel_rfl) (by kernel_rfl) (fun _ _ _ h => h) (Or.inl ⟨by rfl, ?_⟩) (by assumption) ?_
          rotate_left
          · (intro _ hSw; (obtain ⟨hS1, hS2⟩ := hSw); first | (go_simp; done) | (go_simp; with_reducible rfl))
          try simp only [Act.put, List.setIfInBounds_toArray, List.set_cons_zero, List.set_cons_succ]
          refine K_take (i := 4) (v := ?_) rfl (by kernel_rfl) (by kernel_rfl) (by kernel_rfl) (by kernel_rfl) (by kernel_rfl) (fun _ _ _ h => h) (Or.inl ⟨by rfl, ?_⟩) (by assumption) ?_
          rotate_left
          · (intro _ hSw; (obtain ⟨hS1, hS2⟩ := hSw); first | (go_simp; done) | (go_simp; with_reducible rfl))
          try simp only [Act.put, List.setIfInBounds_toArray, List.set_cons_zero, List.set_cons_succ]
          refine K_take (i := 5) (v := ?_) rfl (by kernel_rfl) (by kernel_rfl) (by kernel_rfl) (by kernel_rfl) (by kernel_rfl) (fun _ _ _ h => h) (Or.inl ⟨by rfl, ?_⟩) (by assumption) ?_
          rotate_left
          · (intro _ hSw; (obtain ⟨hS1, hS2⟩ := hSw); first | (go_simp; done) | (go_simp; with_reducible rfl))
          try simp only [Act.put, List.setIfInBounds_toArray, List.set_cons_zero, List.set_cons_succ]
          refine K_take (i := 6) (v := ?_) rfl (by kernel_rfl) (by kernel_rfl) (by kernel_rfl) (by kernel_rfl) (by kernel_rfl) (fun _ _ _ h => h) (Or.inl ⟨by rfl, ?_⟩) (by assumption) ?_
          rotate_left
          · (intro _ hSw; (obtain ⟨hS1, hS2⟩ := hSw); first | (go_simp; done) | (go_simp; with_reducible rfl))
          try simp only [Act.put, List.setIfInBounds_toArray, List.set_cons_zero, List.set_cons_succ]
          refine K_take (i := 7) (v := ?_) rfl (by kernel_rfl) (by kernel_rfl) (by kernel_rfl) (by kernel_rfl) (by kernel_rfl) (fun _ _ _ h => h) (Or.inl ⟨by rfl, ?_⟩) (by assumption) ?_
          rotate_left
          · (intro _ hSw; (obtain ⟨hS1, hS2⟩ := hSw); first | (go_simp; done) | (go_simp; with_reducible rfl))
          try simp only [Act.put, List.setIfInBounds_toArray, List.set_cons_zero, List.set_cons_succ]
          refine K_take (i := 8) (v := ?_) rfl (by kernel_rfl) (by kernel_rfl) (by kernel_rfl) (by kernel_rfl) (by kernel_rfl) (fun _ _ _ h => h) (Or.inl ⟨by rfl, ?_⟩) (by assumption) ?_
          rotate_left
          · (intro _ hSw; (obtain ⟨hS1, hS2⟩ := hSw); first | (go_simp; done) | (go_simp; with_reducible rfl))
          try simp only [Act.put, List.setIfInBounds_toArray, List.set_cons_zero, List.set_cons_succ]
          refine K_take (i := 9) (v := ?_) rfl (by kernel_rfl) (by kernel_rfl) (by kernel_rfl) (by kernel_rfl) (by kernel_rfl) (fun _ _ _ h => h) (Or.inl ⟨by rfl, ?_⟩) (by assumption) ?_
          rotate_left
          · (intro _ hSw; (obtain ⟨hS1, hS2⟩ := hSw); first | (go_simp; done) | (go_simp; with_reducible rfl))
          try simp only [Act.put, List.setIfInBounds_toArray, List.set_cons_zero, List.set_cons_succ]
          refine K_take (i := 10) (v := ?_) rfl (by kernel_rfl) (by kernel_rfl) (by kernel_rfl) (by kernel_rfl) (by kernel_rfl) (fun _ _ _ h => h) (Or.inl ⟨by rfl, ?_⟩) (by assumption) ?_
          rotate_left
          · (intro _ hSw; (obtain ⟨hS1, hS2⟩ := hSw); first | (go_simp; done) | (go_simp; with_reducible rfl))
          try simp only [Act.put, List.setIfInBounds_toArray, List.set_cons_zero, List.set_cons_succ]
          refine K_one (i := 11) (by kernel_rfl) rfl (fun K hK => ?_)
          go_simp
          refine hK.out _ _ (hHeld.kept ((Keeps.refl (fun _ => False) _).alloc _) (fun h => h)) (fun hHeld2 => ?_)
          clear hK K hHeld
          try simp only [Act.put, List.setIfInBounds_toArray, List.set_cons_zero, List.set_cons_succ]
          have hF3 : Fresh w2 (w2.drew.alloc (.cells #[.int .u8 c.toNat] 5)) := ((Keeps.refl _ w2).drew).alloc _
          refine K_one (i := 12) (by kernel_rfl) rfl (fun K hK => ?_)
          refine step_append_mine _ (by rfl) _ _ 94 (by rfl) 5 _ 1 1 Tryd.underlying94 HI.out rfl (by decide) v p.length (Lib.byteCells p) (by rfl) ((H2.out.fresh hF3).txt) (some ⟨w2.heap.size, 0, none⟩) 1 1 [.int .u8 c.toNat] (by rfl) rfl (fun h => (by cases h)) (byte_new w2.drew c 5) (fun u hu => by simp at hu; rw [hu]; rfl) (by unfold maxLen; omega) (by omega) ?_
          intro pp cc w3 hrow hgr hkp
          obtain ⟨hm, hmv, z3, zf⟩ := H2.out.grow hF3 hrow hgr hkp
          refine hK.out _ _ (hHeld2.kept hkp (own_ne (H2.out.fresh hF3).txt (H2.out.fresh hF3).blk (by decide))) (fun hHeld3 => ?_)
          clear hK K hHeld2
          try simp only [Act.put, List.setIfInBounds_toArray, List.set_cons_zero, List.set_cons_succ]
          have a1 := hm.cells.2.1
          have af := hm.cells.2.2.2.2.2.2.1 1
          have hat := hm.at (j + 1)
          have hmv2 := hmv.at (H2.out.lt (.inl rfl)) (.int .i64 ((j + 1 : Nat) : Int))
          have hinv : PartInv n C Bo vo s ins L R w (j + 1 + 0) _ := PartInv.step (f := f) HG.out HH.out HMV.out hat (HMF.out.trans hmv2) HT.out (Nat.zero_le _) HHH.out (by omega) (by omega) hlt (by simp; omega) (by have := flushE_le (p ++ [c]); omega)
          have HINV := Lib.hid hinv
          clear hrow hgr hkp hm hmv hF3 hat hmv2 hinv
          refine K_take (i := 13) (v := ?_) rfl (by kernel_rfl) (by kernel_rfl) (by kernel_rfl) (by kernel_rfl) (by kernel_rfl) (fun _ _ _ h => h) (Or.inl ⟨by rfl, ?_⟩) (by assumption) ?_
          rotate_left
          · (intro _ hSw; (obtain ⟨hS1, hS2⟩ := hSw); first | (go_simp; done) | (go_simp; with_reducible rfl))
          try simp only [Act.put, List.setIfInBounds_toArray, List.set_cons_zero, List.set_cons_succ]
          refine K_take (i := 14) (v := ?_) rfl (by kernel_rfl) (by kernel_rfl) (by kernel_rfl) (by kernel_rfl) (by kernel_rfl) (fun _ _ _ h => h) (Or.inl ⟨by rfl, ?_⟩) (by assumption) ?_
          rotate_left
          · (intro _ hSw; (obtain ⟨hS1, hS2⟩ := hSw); first | (go_simp; done) | (go_simp; with_reducible rfl))
          try simp only [Act.put, List.setIfInBounds_toArray, List.set_cons_zero, List.set_cons_succ]
          clear hHeld3
          refine K_last (by kernel_rfl) rfl (fun K hK => ?_)
          go_simp
          refine hK.out _ _ ?_
          clear hK K
          try simp only [Act.put, List.setIfInBounds_toArray, List.set_cons_zero, List.set_cons_succ]
          refine K_done (by kernel_rfl) ?_ _
          go_wp2
          go_roundg g
          case measure => omega
          case rel => exact ⟨j + 1 + 0, by omega, HINV.out⟩
        | succ k =>
          obtain ⟨rfl, v2, vo2, hs2, hm2⟩ := hpost
          have hinv : PartInv n C Bo vo s ins L R w (j + 1 + (k + 1)) w2 := PartInv.step (f := f) HG.out HH.out HMV.out (by rw [show j + 1 + (k + 1) = j + k + 2 by omega]; exact hs2) hm2 HT.out hkl heq (by omega) (by omega) hlt (by simp; omega) (by have := flushE_le (p ++ [c]); omega)
          have HINV := Lib.hid hinv
          clear hinv hs2 hm2 heq htk c0 c1 c3 hfC
          go_wp2
          go_roundg (s.size - (j + 1 + (k + 1)))
          case measure => omega
          case rel => exact ⟨j + 1 + (k + 1), by omega, HINV.out⟩
      | one e =>
        obtain ⟨-, hkl⟩ := tokAt_one htk
        obtain ⟨rfl, v2, vo2, hs2, hm2⟩ := hpost
        have hinv : PartInv n C Bo vo s ins L R w (j + 1 + k) w2 := PartInv.step (f := f) HG.out HH.out HMV.out (by rw [show j + 1 + k = j + k + 1 by omega]; exact hs2) hm2 HT.out hkl (by rw [← heq]; simp) (by omega) (by omega) hlt (by simp) (by simp [flushE_nil]; omega)
        have HINV := Lib.hid hinv
        clear hinv hs2 hm2 heq htk c0 c1 c3 hfC
        go_wp2
        go_roundg (s.size - (j + 1 + k))
        case measure => omega
        case rel => exact ⟨j + 1 + k, by omega, HINV.out⟩
      | sub e s' i' =>
        obtain ⟨-, hsl, hkl⟩ := tokAt_sub htk
        obtain ⟨rfl, v2, vo2, hs2, hm2⟩ := hpost
        have hil := inlF_length f i' s' []
        rw [flushE_nil] at hil
        simp only [List.length_nil, Nat.add_zero] at hil
        have hinv : PartInv n C Bo vo s ins L R w (j + 1 + k) w2 := PartInv.step (f := f) HG.out HH.out HMV.out (by rw [show j + 1 + k = j + k + 1 by omega]; exact hs2) hm2 HT.out hkl (by rw [← heq]; simp) (by omega) (by omega) hlt (by simp) (by simp [flushE_nil]; omega)
        have HINV := Lib.hid hinv
        clear hinv hs2 hm2 heq htk c0 c1 c3 hfC
        go_wp2
        go_roundg (s.size - (j + 1 + k))
        case measure => omega
        case rel => exact ⟨j + 1 + k, by omega, HINV.out⟩
end Go.Proofs.YtbioecifiogffaaDoor
