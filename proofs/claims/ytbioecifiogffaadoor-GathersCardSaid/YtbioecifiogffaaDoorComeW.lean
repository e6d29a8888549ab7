/- proselaw.fit and proselaw.come: what they answer. Condition: texts and lists of at most 2^20 elements. -/
import Derived.Test.YtbioecifiogffaaDoorCome
import Derived.Test.YtbioecifiogffaaDoorRegular
import Derived.Deep.DeepCutAuto
namespace Go.Proofs.YtbioecifiogffaaDoor
open Go.RowKit

/-- A slice of ints that came in: it reads as the list. -/
def IntsAt (w : World) (v : Value) (l : List Int) : Prop :=
  ∃ ao cap, v = .slice ao l.length cap ∧ l.length ≤ cap ∧ (ao = none → l = [] ∧ cap = 0) ∧ (l ≠ [] → ∃ b off, ao = some ⟨b, off, none⟩ ∧ ∀ j, j < l.length → w.cell? ⟨b, off + j, none⟩ = some (.int .i64 (l.getD j 0)))

theorem IntsAt.cells {w : World} {v : Value} {l : List Int} (h : IntsAt w v l) {k : Nat} (hk : k < l.length) : ∃ b off cap, v = .slice (some ⟨b, off, none⟩) l.length cap ∧ b < w.heap.size ∧ w.cell? ⟨b, off + k, none⟩ = some (.int .i64 (l.getD k 0)) := by
  obtain ⟨ao, cap, rfl, h1, h2, h3⟩ := h
  have hne : l ≠ [] := by intro e; rw [e] at hk; simp at hk
  obtain ⟨b, off, rfl, hc⟩ := h3 hne
  exact ⟨b, off, cap, rfl, World.block_lt_of_cell? w _ (hc k hk), hc k hk⟩

theorem IntsAt.form {w : World} {v : Value} {l : List Int} (h : IntsAt w v l) : ∃ ao cap, v = .slice ao l.length cap := by
  obtain ⟨ao, cap, rfl, _⟩ := h
  exact ⟨ao, cap, rfl⟩

set_option maxHeartbeats 1000000 in
theorem fit_any (s : ByteArray) (v : Value) (l : List Int) (fa : Int) (wt : Bool) (w : World) (hv : IntsAt w v l) (hs : s.size ≤ maxLen) (hl : l.length ≤ maxLen) :
    Calls Tryd.prog 8 #[.agg #[.string s, v, .int .i64 fa, .bool wt]] w fun e w' => e = .returned (.bool (decide (s.size ≤ 1048576 ∧ l.length ≤ 1048576))) ∧ Fresh w w' := by
  unfold maxLen at hs hl
  obtain ⟨ao, cap, rfl⟩ := hv.form
  clear hv
  by_cases h1 : s.size ≤ 1048576
  · by_cases h2 : l.length ≤ 1048576
    · have e1 : decide ((s.size : Int) ≤ 1048576) = true := by simp; omega
      have e2 : decide ((l.length : Int) ≤ 1048576) = true := by simp; omega
      go_enter Tryd.func8, Tryd.ntmps8
      go_wp2
      go_ret
      exact ⟨by simp [h1, h2], (Keeps.refl _ _).alloc _⟩
    · have e1 : decide ((s.size : Int) ≤ 1048576) = true := by simp; omega
      have e2 : decide ((l.length : Int) ≤ 1048576) = false := by simp; omega
      go_enter Tryd.func8, Tryd.ntmps8
      go_wp2
      go_ret
      exact ⟨by simp [h1, h2], (Keeps.refl _ _).alloc _⟩
  · have e1 : decide ((s.size : Int) ≤ 1048576) = false := by simp; omega
    go_enter Tryd.func8, Tryd.ntmps8
    go_wp2
    go_ret
    exact ⟨by simp [h1], (Keeps.refl _ _).alloc _⟩

theorem ext_drop (r : ByteArray) (p : ByteArray) : (r.extract p.size r.size).data.toList = r.data.toList.drop p.data.toList.length := by
  rw [Lib.extract_data, List.take_of_length_le]
  · simp
  · simp
theorem ba_app (a b : ByteArray) : (a ++ b).data.toList = a.data.toList ++ b.data.toList := by simp
theorem ba_of (a b : ByteArray) : (⟨(a.data.toList ++ b.data.toList).toArray⟩ : ByteArray) = a ++ b := by
  apply ByteArray.ext
  simp

/-- A store into the result's cells leaves what was there. -/
theorem come_end {w W : World} {p0 p1 p2 p3 : Value} (h : Fresh w W) {i0 i1 i2 i3 : Nat} : Fresh w ((((W.setCell ⟨w.heap.size + 1, i0, none⟩ p0).setCell ⟨w.heap.size + 1, i1, none⟩ p1).setCell ⟨w.heap.size + 1, i2, none⟩ p2).setCell ⟨w.heap.size + 1, i3, none⟩ p3) :=
  (((h.setCell (p := ⟨w.heap.size + 1, i0, none⟩) (fun h => by simp at h; omega) _).setCell (p := ⟨w.heap.size + 1, i1, none⟩) (fun h => by simp at h; omega) _).setCell (p := ⟨w.heap.size + 1, i2, none⟩) (fun h => by simp at h; omega) _).setCell (p := ⟨w.heap.size + 1, i3, none⟩) (fun h => by simp at h; omega) _

set_option maxHeartbeats 4000000 in
set_option maxRecDepth 1000000 in
theorem come_any (s : ByteArray) (v : Value) (cs : List Int) (fa : Int) (wt : Bool) (w : World) (hv : IntsAt w v cs) (hs : s.size ≤ 1048576) (hl : cs.length ≤ 1048576) (hw : ∀ x ∈ cs, -9223372036854775808 ≤ x ∧ x ≤ 9223372036854775807) :
    Calls Tryd.prog 10 #[.agg #[.string s, v, .int .i64 fa, .bool wt]] w fun e w' =>
      e = .returned (.agg #[.string ⟨(comeL s.data.toList cs fa wt).text.toArray⟩, .int .i64 (comeL s.data.toList cs fa wt).err, .int .i64 (comeL s.data.toList cs fa wt).n, .int .i64 (comeL s.data.toList cs fa wt).reads]) ∧ Fresh w w' := by
  obtain ⟨ao, cap, rfl⟩ := hv.form
  obtain ⟨T, hT⟩ : ∃ T, T = comeL s.data.toList cs fa wt := ⟨_, rfl⟩
  rw [← hT]
  have HT := Lib.hid hT
  clear hT
  go_enter Tryd.func10, Tryd.ntmps10
  go_wp2
  obtain ⟨W, hW⟩ : ∃ W, W = (w.alloc (.cells #[.string s, .slice ao cs.length cap, .int .i64 fa, .bool wt] 25)).alloc (.cells #[.string ⟨#[]⟩, .int .i64 0, .int .i64 0, .int .i64 0] 32) := ⟨_, rfl⟩
  rw [← hW]
  have c0 : W.cell? ⟨w.heap.size, 0, none⟩ = some (.string s) := by rw [hW]; simp
  have c1 : W.cell? ⟨w.heap.size, 1, none⟩ = some (.slice ao cs.length cap) := by rw [hW]; simp
  have c2 : W.cell? ⟨w.heap.size, 2, none⟩ = some (.int .i64 fa) := by rw [hW]; simp
  have c3 : W.cell? ⟨w.heap.size, 3, none⟩ = some (.bool wt) := by rw [hW]; simp
  have r0 : W.cell? ⟨w.heap.size + 1, 0, none⟩ = some (.string ⟨#[]⟩) := by rw [hW]; simp
  have r1 : W.cell? ⟨w.heap.size + 1, 1, none⟩ = some (.int .i64 0) := by rw [hW]; simp
  have r2 : W.cell? ⟨w.heap.size + 1, 2, none⟩ = some (.int .i64 0) := by rw [hW]; simp
  have r3 : W.cell? ⟨w.heap.size + 1, 3, none⟩ = some (.int .i64 0) := by rw [hW]; simp
  have f0 : W.frozen? ⟨w.heap.size + 1, 0, none⟩ = false := by rw [hW]; simp
  have f1 : W.frozen? ⟨w.heap.size + 1, 1, none⟩ = false := by rw [hW]; simp
  have f2 : W.frozen? ⟨w.heap.size + 1, 2, none⟩ = false := by rw [hW]; simp
  have f3 : W.frozen? ⟨w.heap.size + 1, 3, none⟩ = false := by rw [hW]; simp
  have hF : Fresh w W := by rw [hW]; exact ((Keeps.refl _ w).alloc _).alloc _
  have hsize : W.heap.size = w.heap.size + 2 := by rw [hW]; simp
  have HC : Hid (∀ k, k < cs.length → ∃ b off, ao = some ⟨b, off, none⟩ ∧ W.cell? ⟨b, off + k, none⟩ = some (.int .i64 (cs.getD k 0))) := by
    intro k hk
    obtain ⟨b, off, cap', he, hb, hc⟩ := hv.cells hk
    cases he
    exact ⟨b, off, rfl, hF.cell_some hc (fun h => h)⟩
  have HS := Lib.hid hsize
  have HK := Lib.hid hF
  clear hW hsize hF hv
  go_loop [3, 4, 5, 6] (fun r al id k => ∃ (kk ii f : Nat) (rb ab : ByteArray), r = .string rb ∧ al = .string ab ∧ id = .int .i64 ii ∧ k = .int .i64 kk ∧ comeGo fa wt f kk rb.data.toList ab.data.toList ii (cs.drop kk) = T ∧ fuelFor f rb.data.toList (cs.drop kk) ∧ kk + f = cs.length + 2 ∧ ab.size + rb.size ≤ 1048576 ∧ ii ≤ 2) (fun _ _ _ k => cs.length + 2 - (intOf k).toNat)
  case atStart => exact ⟨0, 0, cs.length + 2, s, .empty, rfl, rfl, rfl, rfl, by rw [HT.out]; rfl, fuelFor_start _ _, by omega, by simp; omega, by omega⟩
  case round =>
    obtain ⟨kk, ii, f, rb, ab, rfl, rfl, rfl, rfl, hgo, hfu, hkf, hsz, hid⟩ := hrel
    obtain ⟨f, rfl⟩ : ∃ f', f = f' + 1 := ⟨f - 1, by have := hfu.1; omega⟩
    have HG := Lib.hid hgo
    have HF := Lib.hid hfu
    clear hgo hfu
    by_cases hfail : (kk : Int) + 1 = fa
    · have e1 : ((kk : Int) + 1 == fa) = true := by rw [beq_iff_eq]; exact hfail
      have hres : T = ⟨[], 4, ab.size, kk + 1⟩ := by
        rw [← HG.out, comeGo, if_pos hfail]
        simp
      have HR := Lib.hid hres
      clear hres hfail
      go_wp2
      refine bodyPost_ret (v := .agg #[.string ⟨#[]⟩, .int .i64 4, .int .i64 ab.size, .int .i64 (kk + 1)]) (by simp [results, Tryd.results10, go_sem, *]) rfl ⟨by rw [show T = _ from HR.out]; simp, ?_⟩
      exact come_end HK.out
    · have e1 : ((kk : Int) + 1 == fa) = false := by rw [beq_eq_false_iff_ne]; exact hfail
      have HN := Lib.hid hfail
      clear hfail
      go_upto_region 9 with fail
      go_cut [8] (fun d wx => d = .bool (doneOf wt rb.data.toList []) ∧ W = wx)
      case first =>
        cases wt
        · by_cases hr : rb.data.toList = []
          · have he : rb = .empty := by apply ByteArray.ext; simpa using hr
            subst he
            go_wp2
            go_meet
            exact ⟨rfl, rfl⟩
          · have hb1 : rb.toList.isEmpty = false := by rw [ByteArray.toList_eq]; simpa using hr
            have hb3 : doneOf false rb.data.toList [] = false := by simp [doneOf]; simpa using hr
            have HB := Lib.hid hb3
            clear hb3 hr
            go_wp2
            go_meet
            exact ⟨by rw [show doneOf false rb.data.toList [] = false from HB.out], rfl⟩
        · go_wp2
          go_meet
          exact ⟨rfl, rfl⟩
      case rest =>
        obtain ⟨rfl, rfl⟩ := hcut
        go_upto_if 36 with fail
        go_cut [7, 8, 9] (fun p d n wx => ∃ pb : ByteArray, p = .string pb ∧ pb.data.toList = pieceOf rb.data.toList (cs.drop kk) ∧ d = .bool (doneOf wt rb.data.toList (cs.drop kk)) ∧ W = wx)
        case first =>
          by_cases hk : kk < cs.length
          · obtain ⟨b, off, rfl, hc⟩ := HC.out kk hk
            have hdrop : cs.drop kk = cs.getD kk 0 :: cs.drop (kk + 1) := by
              rw [List.drop_eq_getElem_cons hk]; simp [hk]
            have hwc := hw (cs.getD kk 0) (by simp [hk])
            have hlast : (cs.drop (kk + 1)).isEmpty = decide (kk + 1 = cs.length) := by
              rw [Bool.eq_iff_iff]; simp; omega
            have hsz2 : rb.data.toList.length = rb.size := by simp
            generalize cs.getD kk 0 = c at *
            have HD := Lib.hid hdrop
            have HL := Lib.hid hlast
            have HZ := Lib.hid hsz2
            clear hdrop hlast hsz2
            by_cases hcl : c < 0 ∨ (rb.size : Int) < c
            · have hpc : pieceOf rb.data.toList (c :: cs.drop (kk + 1)) = [] := by simp only [pieceOf]; rw [if_pos (by rw [HZ.out]; exact hcl)]
              have HP := Lib.hid hpc
              clear hpc
              cases wt
              · rcases hcl with hcl | hcl
                · go_wp2
                  go_meet
                  exact ⟨_, rfl, by rw [HD.out, HP.out]; simp, by rw [HD.out]; simp [doneOf], rfl⟩
                · go_wp2
                  go_meet
                  exact ⟨_, rfl, by rw [HD.out, HP.out]; simp, by rw [HD.out]; simp [doneOf], rfl⟩
              · -- with: the piece is empty; done where nothing is left and this was the last cut
                by_cases hz0 : rb.size = 0
                · have q1 : ((0 : Int) == (rb.size : Int)) = true := by rw [hz0]; rfl
                  by_cases hlst : kk + 1 = cs.length
                  · have q2 : ((kk : Int) + 1 == (cs.length : Int)) = true := by rw [beq_iff_eq]; omega
                    have hd : doneOf true rb.data.toList (c :: cs.drop (kk + 1)) = true := by rw [doneOf_cons, HP.out, HL.out, HZ.out]; simp [hz0, hlst]
                    have HDN := Lib.hid hd
                    clear hd hz0 hlst
                    rcases hcl with hcl | hcl
                    all_goals
                      go_wp2
                      go_meet
                      exact ⟨_, rfl, by rw [HD.out, HP.out]; simp, by rw [HD.out, HDN.out], rfl⟩
                  · have q2 : ((kk : Int) + 1 == (cs.length : Int)) = false := by rw [beq_eq_false_iff_ne]; omega
                    have hd : doneOf true rb.data.toList (c :: cs.drop (kk + 1)) = false := by rw [doneOf_cons, HL.out]; simp [hlst]
                    have HDN := Lib.hid hd
                    clear hd hz0 hlst
                    rcases hcl with hcl | hcl
                    all_goals
                      go_wp2
                      go_meet
                      exact ⟨_, rfl, by rw [HD.out, HP.out]; simp, by rw [HD.out, HDN.out], rfl⟩
                · have q1 : ((0 : Int) == (rb.size : Int)) = false := by rw [beq_eq_false_iff_ne]; omega
                  have hd : doneOf true rb.data.toList (c :: cs.drop (kk + 1)) = false := by rw [doneOf_cons, HP.out, HZ.out]; simp; omega
                  have HDN := Lib.hid hd
                  clear hd hz0
                  rcases hcl with hcl | hcl
                  all_goals
                    go_wp2
                    go_meet
                    exact ⟨_, rfl, by rw [HD.out, HP.out]; simp, by rw [HD.out, HDN.out], rfl⟩
            · obtain ⟨m, rfl⟩ : ∃ m : Nat, c = m := ⟨c.toNat, by omega⟩
              have hm : m ≤ rb.size := by omega
              have hpc : pieceOf rb.data.toList ((m : Int) :: cs.drop (kk + 1)) = rb.data.toList.take m := by simp only [pieceOf]; rw [if_neg (by rw [HZ.out]; exact hcl)]; rfl
              have HP := Lib.hid hpc
              have hpl : (pieceOf rb.data.toList ((m : Int) :: cs.drop (kk + 1))).length = m := by rw [hpc, List.length_take, HZ.out]; omega
              have HPL := Lib.hid hpl
              clear hpc hpl hcl
              cases wt
              · have hd : doneOf false rb.data.toList ((m : Int) :: cs.drop (kk + 1)) = false := by simp [doneOf]
                have HDN := Lib.hid hd
                clear hd
                go_wp2
                go_meet
                exact ⟨_, rfl, by rw [HD.out, HP.out, Lib.extract_data]; simp, by rw [HD.out, HDN.out], rfl⟩
              · by_cases hz0 : m = rb.size
                · have q1 : ((m : Int) == (rb.size : Int)) = true := by rw [hz0]; simp
                  have q3 : (m == rb.size) = true := by rw [hz0]; simp
                  by_cases hlst : kk + 1 = cs.length
                  · have q2 : ((kk : Int) + 1 == (cs.length : Int)) = true := by rw [beq_iff_eq]; omega
                    have hd : doneOf true rb.data.toList ((m : Int) :: cs.drop (kk + 1)) = true := by rw [doneOf_cons, HPL.out, HL.out, HZ.out]; simp [hz0, hlst]
                    have HDN := Lib.hid hd
                    clear hd hz0 hlst
                    go_wp2
                    go_meet
                    exact ⟨_, rfl, by rw [HD.out, HP.out, Lib.extract_data]; simp, by rw [HD.out, HDN.out], rfl⟩
                  · have q2 : ((kk : Int) + 1 == (cs.length : Int)) = false := by rw [beq_eq_false_iff_ne]; omega
                    have hd : doneOf true rb.data.toList ((m : Int) :: cs.drop (kk + 1)) = false := by rw [doneOf_cons, HL.out]; simp [hlst]
                    have HDN := Lib.hid hd
                    clear hd hz0 hlst
                    go_wp2
                    go_meet
                    exact ⟨_, rfl, by rw [HD.out, HP.out, Lib.extract_data]; simp, by rw [HD.out, HDN.out], rfl⟩
                · have q1 : ((m : Int) == (rb.size : Int)) = false := by rw [beq_eq_false_iff_ne]; omega
                  have q3 : (m == rb.size) = false := by rw [beq_eq_false_iff_ne]; exact hz0
                  have hd : doneOf true rb.data.toList ((m : Int) :: cs.drop (kk + 1)) = false := by rw [doneOf_cons, HPL.out, HZ.out]; simp [hz0]
                  have HDN := Lib.hid hd
                  clear hd hz0
                  go_wp2
                  go_meet
                  exact ⟨_, rfl, by rw [HD.out, HP.out, Lib.extract_data]; simp, by rw [HD.out, HDN.out], rfl⟩
          · have hdrop : cs.drop kk = [] := List.drop_eq_nil_of_le (by omega)
            have HD := Lib.hid hdrop
            clear hdrop
            go_wp2
            go_meet
            exact ⟨rb, rfl, by rw [HD.out]; rfl, by rw [HD.out], rfl⟩
        case rest =>
          obtain ⟨pb, rfl, hpb, rfl, rfl⟩ := hcut
          have hsteps := HG.out
          rw [comeGo_succ, if_neg HN.out, ← hpb] at hsteps
          have hfs := @fuelFor_step _ _ _ wt HF.out
          rw [← hpb] at hfs
          have hlen2 : (ab.data.toList ++ pb.data.toList).length = ab.size + pb.size := by simp
          have hple := pieceOf_le rb.data.toList (cs.drop kk)
          rw [← hpb] at hple
          have hps : pb.size ≤ rb.size := by simpa using hple
          rw [hlen2] at hsteps
          generalize doneOf wt rb.data.toList (cs.drop kk) = d at *
          have HSt := Lib.hid hsteps
          have HFs := Lib.hid hfs
          have HPB := Lib.hid hpb
          clear hsteps hfs hlen2 hple hpb
          by_cases hlong : 300 < ab.size + pb.size
          · have hres : T = ⟨[], 1, 0, kk + 1⟩ := by rw [← HSt.out, if_pos hlong]
            have HR := Lib.hid hres
            clear hres
            by_cases hp : pb.data.toList = []
            · have hb1 : pb.toList.isEmpty = true := by rw [ByteArray.toList_eq, hp]; rfl
              have hb2 : pb.toList = [] := by rw [ByteArray.toList_eq, hp]
              clear hp
              cases d
              all_goals
                go_wp2
                refine bodyPost_ret (v := .agg #[.string ⟨#[]⟩, .int .i64 1, .int .i64 0, .int .i64 (kk + 1)]) (by simp [results, Tryd.results10, go_sem, *]) rfl ⟨by rw [show T = _ from HR.out]; simp, come_end HK.out⟩
            · have hb1 : pb.toList.isEmpty = false := by rw [ByteArray.toList_eq]; simpa using hp
              clear hp
              go_wp2
              refine bodyPost_ret (v := .agg #[.string ⟨#[]⟩, .int .i64 1, .int .i64 0, .int .i64 (kk + 1)]) (by simp [results, Tryd.results10, go_sem, *]) rfl ⟨by rw [show T = _ from HR.out]; simp, come_end HK.out⟩
          · by_cases hp : pb.data.toList = []
            · have hb1 : pb.toList.isEmpty = true := by rw [ByteArray.toList_eq, hp]; rfl
              have hb2 : pb.toList = [] := by rw [ByteArray.toList_eq, hp]
              have HPE := Lib.hid hp
              clear hp
              cases d
              · by_cases hidl : ii = 2
                · have hres : T = ⟨[], 2, 0, kk + 1⟩ := by rw [← HSt.out, if_neg hlong]; simp [hidl, show pb.data.toList = [] from HPE.out]
                  have HR := Lib.hid hres
                  subst hidl
                  clear hres
                  go_wp2
                  refine bodyPost_ret (v := .agg #[.string ⟨#[]⟩, .int .i64 2, .int .i64 0, .int .i64 (kk + 1)]) (by simp [results, Tryd.results10, go_sem, *]) rfl ⟨by rw [show T = _ from HR.out]; simp, come_end HK.out⟩
                · have hff : fuelFor f (rb.data.toList.drop pb.data.toList.length) (cs.drop (kk + 1)) := by
                    obtain ⟨f2, e2, h2⟩ := HFs.out rfl
                    have : f = f2 := by omega
                    subst this
                    simpa using h2
                  have hgo2 : comeGo fa wt f (kk + 1) (rb.data.toList.drop pb.data.toList.length) (ab.data.toList ++ pb.data.toList) (ii + 1) (cs.drop (kk + 1)) = T := by
                    rw [← HSt.out, if_neg hlong]
                    simp [show pb.data.toList = [] from HPE.out, show ¬ 2 < ii + 1 by omega]
                  have HGo := Lib.hid hgo2
                  have HFF := Lib.hid hff
                  clear hgo2 hff
                  go_wp2
                  go_round
                  case rel => exact ⟨kk + 1, (ii + 1), f, rb.extract pb.size rb.size, ab ++ pb, rfl, rfl, by go_num, by go_num, by rw [ext_drop, ba_app]; exact HGo.out, by rw [ext_drop]; exact HFF.out, by omega, by simp; omega, by omega⟩
                  case measure => simp [intOf]; omega
              · have hres : T = ⟨regular (ab ++ pb), 0, 0, kk + 1⟩ := by
                  rw [← HSt.out, if_neg hlong, if_neg (by simp), if_pos rfl, ba_of]
                have HR := Lib.hid hres
                clear hres
                go_wp2_with (go_at_call 12; refine (refRegular_any _ _ (by simp; omega)).mono ?_)
                rintro e w2 rfl hF2
                have q0 := hF2.cell_some r0 (fun h => h)
                have q1 := hF2.cell_some r1 (fun h => h)
                have q2 := hF2.cell_some r2 (fun h => h)
                have q3 := hF2.cell_some r3 (fun h => h)
                have g0 := (hF2.frozen (p := ⟨w.heap.size + 1, 0, none⟩) (by rw [HS.out]; simp) (fun h => h)).trans f0
                have g1 := (hF2.frozen (p := ⟨w.heap.size + 1, 1, none⟩) (by rw [HS.out]; simp) (fun h => h)).trans f1
                have g2 := (hF2.frozen (p := ⟨w.heap.size + 1, 2, none⟩) (by rw [HS.out]; simp) (fun h => h)).trans f2
                have g3 := (hF2.frozen (p := ⟨w.heap.size + 1, 3, none⟩) (by rw [HS.out]; simp) (fun h => h)).trans f3
                have HF2 := Lib.hid (Keeps.tr HK.out hF2)
                clear hF2 r0 r1 r2 r3 f0 f1 f2 f3 c0 c1 c2 c3
                go_wp2
                refine bodyPost_ret (v := .agg #[.string ⟨(regular (ab ++ pb)).toArray⟩, .int .i64 0, .int .i64 0, .int .i64 (kk + 1)]) (by simp [results, Tryd.results10, go_sem, *]) rfl ⟨by rw [show T = _ from HR.out]; simp, come_end HF2.out⟩
            · have hb1 : pb.toList.isEmpty = false := by rw [ByteArray.toList_eq]; simpa using hp
              have HPN := Lib.hid hp
              clear hp
              cases d
              · have hff : fuelFor f (rb.data.toList.drop pb.data.toList.length) (cs.drop (kk + 1)) := by
                  obtain ⟨f2, e2, h2⟩ := HFs.out rfl
                  have : f = f2 := by omega
                  subst this
                  simpa using h2
                have hgo2 : comeGo fa wt f (kk + 1) (rb.data.toList.drop pb.data.toList.length) (ab.data.toList ++ pb.data.toList) 0 (cs.drop (kk + 1)) = T := by
                  rw [← HSt.out, if_neg hlong]
                  simp [show ¬ pb.data.toList = [] from HPN.out]
                have HGo := Lib.hid hgo2
                have HFF := Lib.hid hff
                clear hgo2 hff
                go_wp2
                go_round
                case rel => exact ⟨kk + 1, 0, f, rb.extract pb.size rb.size, ab ++ pb, rfl, rfl, by go_num, by go_num, by rw [ext_drop, ba_app]; exact HGo.out, by rw [ext_drop]; exact HFF.out, by omega, by simp; omega, by omega⟩
                case measure => simp [intOf]; omega
              · have hres : T = ⟨regular (ab ++ pb), 0, 0, kk + 1⟩ := by
                  rw [← HSt.out, if_neg hlong, if_neg (by simp), if_pos rfl, ba_of]
                have HR := Lib.hid hres
                clear hres
                go_wp2_with (go_at_call 12; refine (refRegular_any _ _ (by simp; omega)).mono ?_)
                rintro e w2 rfl hF2
                have q0 := hF2.cell_some r0 (fun h => h)
                have q1 := hF2.cell_some r1 (fun h => h)
                have q2 := hF2.cell_some r2 (fun h => h)
                have q3 := hF2.cell_some r3 (fun h => h)
                have g0 := (hF2.frozen (p := ⟨w.heap.size + 1, 0, none⟩) (by rw [HS.out]; simp) (fun h => h)).trans f0
                have g1 := (hF2.frozen (p := ⟨w.heap.size + 1, 1, none⟩) (by rw [HS.out]; simp) (fun h => h)).trans f1
                have g2 := (hF2.frozen (p := ⟨w.heap.size + 1, 2, none⟩) (by rw [HS.out]; simp) (fun h => h)).trans f2
                have g3 := (hF2.frozen (p := ⟨w.heap.size + 1, 3, none⟩) (by rw [HS.out]; simp) (fun h => h)).trans f3
                have HF2 := Lib.hid (Keeps.tr HK.out hF2)
                clear hF2 r0 r1 r2 r3 f0 f1 f2 f3 c0 c1 c2 c3
                go_wp2
                refine bodyPost_ret (v := .agg #[.string ⟨(regular (ab ++ pb)).toArray⟩, .int .i64 0, .int .i64 0, .int .i64 (kk + 1)]) (by simp [results, Tryd.results10, go_sem, *]) rfl ⟨by rw [show T = _ from HR.out]; simp, come_end HF2.out⟩
end Go.Proofs.YtbioecifiogffaaDoor
