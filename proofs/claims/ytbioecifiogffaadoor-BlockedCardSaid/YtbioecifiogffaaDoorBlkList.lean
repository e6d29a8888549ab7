/- (*finder).list, by what all does with fewer lines. Condition: no more than 2^24 bytes. -/
import Derived.Test.YtbioecifiogffaaDoorBlkPar
import Derived.Test.YtbioecifiogffaaDoorBlkRef9
import Derived.Test.YtbioecifiogffaaDoorAppZ
namespace Go.Proofs.YtbioecifiogffaaDoor
open Go.RowKit

theorem box_put {w : World} {B : Nat} {v v' : Value} {t : TypeId} (h : w.heap[B]? = some (.cells #[v] t (0, 0))) : (w.setCell ⟨B, 0, none⟩ v').heap[B]? = some (.cells #[v'] t (0, 0)) := by
  simp [World.setCell, Array.getElem?_modify, h]
theorem box_keeps (w : World) (B : Nat) (v : Value) : Keeps (fun j => j = B) w (w.setCell ⟨B, 0, none⟩ v) := Keeps.setCell (D := fun j => j = B) (Keeps.refl _ w) (p := ⟨B, 0, none⟩) (fun _ => rfl) _
/-- How long the slice in a variable is. -/
def boxLen (w : World) (B : Nat) : Nat := match w.cell? ⟨B, 0, none⟩ with | some v => slen v | none => 0
theorem boxLen_of {w : World} {B : Nat} {v : Value} {t : TypeId} (h : w.heap[B]? = some (.cells #[v] t (0, 0))) : boxLen w B = slen v := by
  unfold boxLen
  rw [Lib.cell_of_heap h]
  rfl
theorem lnCells_rep (n : Nat) : List.replicate n (Value.string ⟨#[]⟩) = lnCells (List.replicate n []) := by simp [lnCells]
theorem Lns.lit1 (w : World) (x : ByteArray) : Lns (w.alloc (.cells #[.string x] 9)) (.slice (some ⟨w.heap.size, 0, none⟩) 1 1) [x.data.toList] :=
  ⟨rfl, .inr ⟨w.heap.size, 1, #[.string x], rfl, Nat.zero_le _, heap_alloc_new w _, Nat.le_refl _, by decide, rfl, rfl⟩⟩
theorem zstr_cells : (Value.string ⟨#[]⟩).cells = #[.string ⟨#[]⟩] := rfl

section
variable {k : Nat} {caps : Array Value} {R : List EvL} {F : World → List EvL → (Nat → Prop) → Prop}

theorem Fnd.keeps {D : Nat → Prop} {w w' : World} {C d : Nat} {fv : Value} (h : Fnd w C fv d) (hk : Keeps D w w') (hn : ¬ D C) : Fnd w' C fv d := hk.heap_some h hn
theorem Fnd.mvx {X o o' : Nat → Prop} {w w' : World} {C d : Nat} {fv : Value} (h : Fnd w C fv d) (hm : MvX X o o' w w') (hn : ¬ o C) (hx : ¬ X C) : Fnd w' C fv d := hm.heap h hn hx
/-- What list's closure leaves in its variable. -/
def LstQ (B3 g : Nat) (Z : List Ln) (w : World) (o : Nat → Prop) : Prop := ∃ v, w.heap[B3]? = some (.cells #[v] 41 (0, 0)) ∧ LnAt w g v Z ∧ ¬ o B3 ∧ ¬ o g

set_option maxHeartbeats 8000000 in
set_option maxRecDepth 100000 in
theorem list1_any (E : EmitOK k caps R F) (n : Nat) (IH : AllOK k caps R F n) (C d g B2 B3 f0 : Nat) (v : Value) (l : List Ln) (w : World) (L : List EvL) (o : Nat → Prop) (h : Fnd w C (fnV k caps) d) (hv : LnAt w g v l) (hF : F w L o) (hC : ¬ o C) (hg : ¬ o g ∧ g ≠ C)
    (hL : tot l ≤ 16777216) (hn : tot l ≤ n) (hd : d < 3) (hf0 : l.length ≤ f0) (hR : ∃ rest, L ++ (lst f0 l).1.flatMap (itE n d) ++ rest = R)
    (h2 : w.heap[B2]? = some (.cells #[.pointer (some ⟨C, 0, none⟩)] 122 (0, 0))) (h3 : w.heap[B3]? = some (.cells #[v] 41 (0, 0))) (n2 : ¬ o B2) (n3 : ¬ o B3) (hgw : g < w.heap.size) (hg3 : g ≠ B3) :
    Calls Tryd.prog 117 #[.pointer (some ⟨B3, 0, none⟩), .pointer (some ⟨B2, 0, none⟩)] w (DoOK F (fun j => j = B3) (LstQ B3 g (lst f0 l).2) L ((lst f0 l).1.flatMap (itE n d)) w o) := by
  have hlen := tot_len l
  obtain ⟨X, hX⟩ : ∃ X, (lst f0 l).1.flatMap (itE n d) = X := ⟨_, rfl⟩
  obtain ⟨Z, hZ⟩ : ∃ Z, (lst f0 l).2 = Z := ⟨_, rfl⟩
  have hst : [] ++ (lst f0 l).1.flatMap (itE n d) = X ∧ (lst f0 l).2 = Z := ⟨hX, hZ⟩
  rw [hX] at hR ⊢
  rw [hZ]
  obtain ⟨rest, hR⟩ := hR
  have n23 : B2 ≠ B3 := by rintro rfl; have := h2.symm.trans h3; cases this
  have nC3 : C ≠ B3 := by rintro rfl; have := h.symm.trans h3; cases this
  have hCw : C < w.heap.size := World.block_lt_of_cell? w ⟨C, 0, none⟩ h.cells.1
  have hB2w : B2 < w.heap.size := (Array.getElem?_eq_some_iff.1 h2).1
  have hB3w : B3 < w.heap.size := (Array.getElem?_eq_some_iff.1 h3).1
  have HI := Lib.hid Tryd.infoStr
  have H := Lib.hid h
  have HV := Lib.hid hv
  have HF := Lib.hid hF
  have HE := Lib.hid E
  have HIH := Lib.hid IH
  have HR := Lib.hid hR
  have HST := Lib.hid hst
  have H2 := Lib.hid h2
  have H3 := Lib.hid h3
  clear h hv hF E IH hR hst hX hZ h2 h3
  go_enter Tryd.func117, Tryd.ntmps117
  go_wp2_with fail
  go_loopw [2] (fun _ wr => ∃ (f : Nat) (cur : List Ln) (done : List EvL) (v : Value) (o1 : Nat → Prop), wr.heap[B3]? = some (.cells #[v] 41 (0, 0)) ∧ LnAt wr g v cur ∧ tot cur ≤ tot l ∧ cur.length ≤ f ∧ F wr (L ++ done) o1 ∧ MvX (fun j => j = B3) o o1 w wr ∧ (done ++ (lst f cur).1.flatMap (itE n d) = X ∧ (lst f cur).2 = Z)) (fun _ wr => boxLen wr B3)
  case atStart => exact ⟨f0, l, [], _, o, H3.out, HV.out, Nat.le_refl _, hf0, by rw [List.append_nil]; exact HF.out, ⟨Keeps.refl _ _, fun _ h => .inl h⟩, HST.out⟩
  case round =>
    obtain ⟨f, cur, done, v, o1, h3, hv, hct, hf, hF, hm, hx, hy⟩ := hrel
    obtain ⟨wo, rfl⟩ : ∃ wo : World, wo = wr := ⟨_, rfl⟩
    have c3 : wo.cell? ⟨B3, 0, none⟩ = some v := by rw [Lib.cell_of_heap h3]; rfl
    have hsk := skip_any g v cur wo hv (by omega)
    obtain ⟨a, cap, rfl⟩ := hv.form
    obtain ⟨N, hN⟩ : ∃ N, nbl cur = N := ⟨_, rfl⟩
    rw [hN] at hsk
    have hNl := nbl_le cur
    rw [hN] at hNl
    have HSK := Lib.hid hsk
    have H3 := Lib.hid h3
    have HV := Lib.hid hv
    have HF := Lib.hid hF
    have HM := Lib.hid hm
    have HX := Lib.hid hx
    have HY := Lib.hid hy
    have HN := Lib.hid hN
    clear hsk h3 hv hF hm hx hy hN
    go_wp2_with fail
    refine HSK.out.mono ?_
    rintro e w2 ⟨rfl, hk2⟩
    have c32 : w2.cell? ⟨B3, 0, none⟩ = some (.slice a cur.length cap) := hk2.cell_some c3 (fun h => h)
    have HK2 := Lib.hid hk2
    clear hk2 c3
    by_cases hlt : N < cur.length
    · obtain ⟨s, hs⟩ : ∃ s, cur[N]? = some s := ⟨cur[N], List.getElem?_eq_getElem hlt⟩
      have hdr : cur.drop (nbl cur) = s :: cur.drop (N + 1) := by
        rw [HN.out, List.drop_eq_getElem_cons hlt]
        rw [List.getElem?_eq_getElem hlt] at hs
        injection hs with hs
        rw [hs]
      obtain ⟨cap', off, he, h1, h2, hcell⟩ := (HV.out.fresh HK2.out).line hs
      cases he
      obtain ⟨S, hS, hSl, hSs⟩ := mk_of s
      rw [hS] at hcell
      have hsz : s.length ≤ 16777216 := by
        have h9 := tot_drop cur (nbl cur)
        rw [hdr, tot_cons] at h9
        omega
      have hit := fun W : World => item_any S W (by omega)
      rw [hSl] at hit
      unfold ItmIs at hit
      cases hi : isItm s with
      | false =>
        rw [hi] at hit
        have hls : lst f cur = ([], cur) := lst_stop (.inr ⟨_, _, hdr, hi⟩)
        have hx := HX.out
        have hy := HY.out
        rw [hls] at hx hy
        have hx2 : done = X := by simpa using hx
        have hy2 : cur = Z := hy
        have HIT := Lib.hid hit
        have HX2 := Lib.hid hx2
        have HY2 := Lib.hid hy2
        clear hit hls hx hy hx2 hy2 hS hSl hSs hsz hdr hs
        go_wp2_with fail
        refine (HIT.out _).mono ?_
        rintro e w3 ⟨x, rfl, -, hk3⟩
        have HK3 := Lib.hid (HK2.out.tr hk3)
        clear hk3
        go_wp2
        go_end0
        have hm3 := HM.out.trans (MvX.of (Mv.fresh HK3.out))
        refine ⟨rfl, o1, ?_, hm3, _, HK3.out.heap_some H3.out (fun h => h), ?_, hm3.not hB3w n3, hm3.not hgw hg.1⟩
        · rw [← HX2.out]; exact HE.out.fresh HF.out HK3.out
        · rw [← HY2.out]; exact HV.out.fresh HK3.out
      | true =>
        rw [hi] at hit
        have HIT := Lib.hid hit
        go_wp2_with fail
        refine (HIT.out _).mono ?_
        rintro e w3 ⟨x, rfl, hxd, hk3⟩
        obtain ⟨W4, hW4⟩ : ∃ W4, w3.alloc (.cells #[.string x] 9) = W4 := ⟨_, rfl⟩
        have hk4 : Fresh w3 W4 := by rw [← hW4]; exact (Keeps.refl _ _).alloc _
        have hk04 : Fresh wo W4 := (HK2.out.tr hk3).tr hk4
        have hin : Lns W4 (.slice (some ⟨w3.heap.size, 0, none⟩) 1 1) [s.drop 2] := by rw [← hxd trivial, ← hW4]; exact Lns.lit1 w3 x
        have h34 := hk04.heap_some H3.out (fun h => h)
        have c34 : W4.cell? ⟨B3, 0, none⟩ = some (.slice (some ⟨g, off, none⟩) cur.length cap) := by rw [Lib.cell_of_heap h34]; rfl
        have f34 : W4.frozen? ⟨B3, 0, none⟩ = false := Lib.frozen_of_heap h34 0
        have hv4 := (HV.out.fresh hk04).cutv (N + 1) (by omega) (m := cur.length - (N + 1)) rfl
        have hcl := tot_len cur
        have hww := HM.out.1.size
        have hNb : (N : Int) ≤ 16777216 := by omega
        have hN1 : (N : Int) + 1 ≤ (cur.length : Int) := by omega
        have hN1c : (N : Int) + 1 ≤ (cap : Int) := by omega
        have hw3 : wo.heap.size ≤ w3.heap.size := (HK2.out.tr hk3).size
        have HK04 := Lib.hid hk04
        have HIN := Lib.hid hin
        have H34 := Lib.hid h34
        have HV4 := Lib.hid hv4
        have HXD := Lib.hid hxd
        clear hk3 hk4 hk04 hin h34 hv4 hxd hit hS hSl hSs hs hcell c32
        go_upto_region 6 with fail
        go_cut [] (fun wx => ∃ v', wx.heap[B3]? = some (.cells #[v'] 41 (0, 0)) ∧ LnAt wx g v' (cur.drop (N + 1)) ∧ Lns wx (.slice (some ⟨w3.heap.size, 0, none⟩) 1 1) [s.drop 2] ∧ Keeps (fun j => j = B3) wo wx)
        case first =>
          by_cases hcap : cap = N + 1
          · subst hcap
            have hv5 := HV4.out
            rw [if_pos rfl, show cur.length - (N + 1) = 0 by omega, Nat.sub_self] at hv5
            have HV5 := Lib.hid hv5
            clear hv5
            go_wp2
            go_meet
            refine ⟨_, box_put H34.out, ?_, ?_, ?_⟩
            · exact HV5.out.keeps (box_keeps _ _ _) (fun _ => hg3)
            · exact HIN.out.kept (box_keeps _ _ _) (fun b hb => by simp [Value.ownBlock] at hb; omega)
            · exact (HK04.out.mono (fun _ _ h => h.elim) : Keeps (fun j => j = B3) wo W4).setCell (p := ⟨B3, 0, none⟩) (fun _ => rfl) _
          · have hv5 := HV4.out
            rw [if_neg hcap] at hv5
            have HV5 := Lib.hid hv5
            clear hv5
            go_wp2
            go_meet
            refine ⟨_, box_put H34.out, ?_, ?_, ?_⟩
            · exact HV5.out.keeps (box_keeps _ _ _) (fun _ => hg3)
            · exact HIN.out.kept (box_keeps _ _ _) (fun b hb => by simp [Value.ownBlock] at hb; omega)
            · exact (HK04.out.mono (fun _ _ h => h.elim) : Keeps (fun j => j = B3) wo W4).setCell (p := ⟨B3, 0, none⟩) (fun _ => rfl) _
        case rest =>
          obtain ⟨v5, h35, hv5, hin5, hk5⟩ := hcut
          obtain ⟨f, rfl⟩ : ∃ f', f = f' + 1 := ⟨f - 1, by omega⟩
          have hls := lst_go (n := f) hdr hi
          have hx := HX.out
          have hy := HY.out
          rw [hls] at hx hy
          have hitt := item_tot (t := cur.drop (N + 1)) hi
          have htd := tot_drop cur (nbl cur)
          rw [hdr] at htd
          rw [HN.out] at hdr
          obtain ⟨IN, hIN⟩ : ∃ IN, s.drop 2 :: (itm (cur.drop (N + 1))).1 = IN := ⟨_, rfl⟩
          obtain ⟨T2, hT2⟩ : ∃ T2, (itm (cur.drop (N + 1))).2 = T2 := ⟨_, rfl⟩
          have hT2m : T2.length ≤ cur.length - (N + 1) := by
            have h9 := itm_len (cur.drop (N + 1))
            rw [hT2, List.length_drop] at h9
            exact h9
          have hT2l : T2.length ≤ f := by omega
          rw [hIN, hT2] at hx hy hitt
          have hit0 : [s.drop 2] ++ (itm (cur.drop (N + 1))).1 = IN ∧ (itm (cur.drop (N + 1))).2 = T2 := ⟨hIN, hT2⟩
          have htot0 : tot (cur.drop (N + 1)) ≤ tot l := by have := tot_drop cur (N + 1); omega
          have hINt := tot_len IN
          have HIT0 := Lib.hid hit0
          have HX3 := Lib.hid hx
          have HY3 := Lib.hid hy
          have H35 := Lib.hid h35
          have HV5 := Lib.hid hv5
          have HIN5 := Lib.hid hin5
          have HK5 := Lib.hid hk5
          clear hit0 hx hy h35 hv5 hin5 hk5 hIN hT2 hls hdr
          go_upto_block 2 with fail
          go_cut [5] (fun i wx => ∃ v', wx.heap[B3]? = some (.cells #[v'] 41 (0, 0)) ∧ LnAt wx g v' T2 ∧ Lns wx i IN ∧ (∀ b, i.ownBlock = some b → wo.heap.size ≤ b) ∧ Keeps (fun j => j = B3) wo wx)
          case first =>
            go_wp2_with fail
            go_loopw [5] (fun i wr => ∃ (cur2 acc : List Ln) (v' : Value), wr.heap[B3]? = some (.cells #[v'] 41 (0, 0)) ∧ LnAt wr g v' cur2 ∧ tot cur2 ≤ tot l ∧ Lns wr i acc ∧ acc ≠ [] ∧ (∀ b, i.ownBlock = some b → wo.heap.size ≤ b) ∧ Keeps (fun j => j = B3) wo wr ∧ (acc ++ (itm cur2).1 = IN ∧ (itm cur2).2 = T2)) (fun _ wr => boxLen wr B3)
            case atStart => exact ⟨_, [s.drop 2], v5, H35.out, HV5.out, htot0, HIN5.out, by simp, (fun b h => by simp [Value.ownBlock] at h; omega), HK5.out, HIT0.out⟩
            case round =>
              obtain ⟨cur2, acc, v', h36, hv6, htot6, hin6, hne6, ho6, hk6, hx6, hy6⟩ := hrel
              obtain ⟨w6, rfl⟩ : ∃ w6 : World, w6 = wr := ⟨_, rfl⟩
              have c36 : w6.cell? ⟨B3, 0, none⟩ = some v' := by rw [Lib.cell_of_heap h36]; rfl
              have hsk := skip_any g v' cur2 w6 hv6 (by omega)
              obtain ⟨a6, cap6, rfl⟩ := hv6.form
              obtain ⟨M, hM⟩ : ∃ M, nbl cur2 = M := ⟨_, rfl⟩
              rw [hM] at hsk
              have hMl := nbl_le cur2
              rw [hM] at hMl
              have hc2l := tot_len cur2
              have hMb : (M : Int) ≤ 16777216 := by omega
              have HSK6 := Lib.hid hsk
              have H36 := Lib.hid h36
              have HV6 := Lib.hid hv6
              have HIN6 := Lib.hid hin6
              have HO6 := Lib.hid ho6
              have HK6 := Lib.hid hk6
              have HX6 := Lib.hid hx6
              have HY6 := Lib.hid hy6
              have HMM := Lib.hid hM
              clear hsk h36 hv6 hin6 ho6 hk6 hx6 hy6 hM
              go_wp2_with fail
              refine HSK6.out.mono ?_
              rintro e w7 ⟨rfl, hk7⟩
              have c37 : w7.cell? ⟨B3, 0, none⟩ = some (.slice a6 cur2.length cap6) := hk7.cell_some c36 (fun h => h)
              have HK7 := Lib.hid hk7
              clear hk7 c36
              by_cases hlt2 : M < cur2.length
              · obtain ⟨s2, hs2⟩ : ∃ s, cur2[M]? = some s := ⟨cur2[M], List.getElem?_eq_getElem hlt2⟩
                have hdr2 : cur2.drop (nbl cur2) = s2 :: cur2.drop (M + 1) := by
                  rw [HMM.out, List.drop_eq_getElem_cons hlt2]
                  rw [List.getElem?_eq_getElem hlt2] at hs2
                  injection hs2 with hs2
                  rw [hs2]
                obtain ⟨cap', off2, he, h1', h2', hcell2⟩ := (HV6.out.fresh HK7.out).line hs2
                cases he
                obtain ⟨S2, hS2, hSl2, hSs2⟩ := mk_of s2
                rw [hS2] at hcell2
                have hsz2 : s2.length ≤ 16777216 := by
                  have h9 := tot_drop cur2 (nbl cur2)
                  rw [hdr2, tot_cons] at h9
                  omega
                have hpf := fun W : World => Tryd.strings_HasPrefix S2 ⟨#[32, 32]⟩ W
                rw [hSl2, show (⟨#[32, 32]⟩ : ByteArray).data.toList = [32, 32] from rfl, isInd_pre] at hpf
                have hMe : ((M : Int) == (cur2.length : Int)) = false := by rw [beq_eq_false_iff_ne]; omega
                cases hi2 : isInd s2 with
                | false =>
                  rw [hi2] at hpf
                  have hls := itm_stop hdr2 hi2
                  have hx := HX6.out
                  have hy := HY6.out
                  rw [hls] at hx hy
                  have hx2 : acc = IN := by simpa using hx
                  have hy2 : cur2 = T2 := hy
                  have HPF := Lib.hid hpf
                  have HX7 := Lib.hid hx2
                  have HY7 := Lib.hid hy2
                  clear hpf hls hx hy hx2 hy2 hS2 hSl2 hdr2 hs2
                  go_wp2_with fail
                  refine (HPF.out _).mono ?_
                  rintro e w8 ⟨rfl, rfl⟩
                  go_wp2
                  go_meet
                  refine ⟨_, HK7.out.heap_some H36.out (fun h => h), ?_, ?_, HO6.out, HK6.out.tr (HK7.out.mono (fun _ _ h => h.elim))⟩
                  · rw [← HY7.out]; exact HV6.out.fresh HK7.out
                  · rw [← HX7.out]; exact HIN6.out.fresh HK7.out
                | true =>
                  rw [hi2] at hpf
                  have hls := itm_go hdr2 hi2
                  rw [HMM.out] at hls
                  have hx := HX6.out
                  have hy := HY6.out
                  rw [hls] at hx hy
                  have hx8 : (acc ++ List.replicate M [] ++ [s2.drop 2]) ++ (itm (cur2.drop (M + 1))).1 = IN := by rw [← hx]; simp
                  have hacl : acc.length + M + 1 ≤ IN.length := by rw [← hx8]; simp; omega
                  have hIN : tot IN ≤ 16777216 := by omega
                  obtain ⟨q6, c6, rfl, -, hq6, hg6⟩ := own_form HIN6.out
                  obtain ⟨g6, rfl, hgl6⟩ : ∃ g6, q6 = some ⟨g6, 0, none⟩ ∧ g6 < w6.heap.size := by
                    cases q6 with
                    | none => exact absurd (List.eq_nil_of_length_eq_zero (hq6 rfl).1) hne6
                    | some ad => obtain ⟨g6, rfl, h5⟩ := hg6 ad rfl; exact ⟨g6, rfl, h5⟩
                  have hg6w : wo.heap.size ≤ g6 := HO6.out g6 rfl
                  have hrow7 : w7.ownsRow 0 9 1 (.slice (some ⟨g6, 0, none⟩) acc.length c6) acc.length (lnCells acc) := HIN6.out.fresh HK7.out
                  have h37 := HK7.out.heap_some H36.out (fun h => h)
                  have n36 : ¬ B3 = g6 := by omega
                  have ng6 : ¬ g = g6 := by omega
                  obtain ⟨U, hU, hUl, hUs⟩ := mk_of (s2.drop 2)
                  have hsub := mk_rest s2 2
                  have hXs : (S2.extract 2 S2.size).data.toList = s2.drop 2 := by rw [← hSl2]; exact rest_list S2 2
                  have hS22 : (2 : Int) ≤ (S2.size : Int) := by
                    have : 2 ≤ s2.length := by
                      unfold isInd at hi2
                      split at hi2
                      · simp
                      · cases hi2
                    omega
                  have hSb : (S2.size : Int) ≤ 16777216 := by omega
                  have HPF := Lib.hid hpf
                  have HX8 := Lib.hid hx8
                  have HY8 := Lib.hid hy
                  have HROW7 := Lib.hid hrow7
                  have H37 := Lib.hid h37
                  have HXS := Lib.hid hXs
                  clear hpf hls hx hy hx8 hS2 hSl2 hdr2 hs2 hrow7 h37 hXs hU hUl hUs hsub hSs2 hsz2
                  go_wp2_with fail
                  refine (HPF.out _).mono ?_
                  rintro e w8 ⟨rfl, rfl⟩
                  go_wp2_with (at_builtin; refine wpList_append_zeros _ rfl _ _ 41 3 rfl Tryd.underlying41 Tryd.underlying3 HI.out (by decide) zstr_cells rfl rfl HROW7.out M rfl (by omega) ?_)
                  intro p9 c9 w9 hr9 hg9 hk9
                  have c39 : w9.cell? ⟨B3, 0, none⟩ = some (.slice (some ⟨g, off2, none⟩) cur2.length cap6) := hk9.cell_some c37 n36
                  have hcell9 : w9.cell? ⟨g, off2 + M, none⟩ = some (.string S2) := hk9.cell_some hcell2 ng6
                  have hr9' : w9.ownsRow 0 9 1 (.slice p9 (acc.length + M) c9) (acc.length + M) (lnCells (acc ++ List.replicate M [])) := by rw [lnCells_append, ← lnCells_rep]; exact hr9
                  have hap : 0 < acc.length := List.length_pos_iff.2 hne6
                  obtain ⟨g9, rfl⟩ : ∃ g9, p9 = some ⟨g9, 0, none⟩ := by
                    obtain ⟨p', c', he', _, hn', hg'⟩ := own_form hr9
                    cases he'
                    cases p9 with
                    | none => have := (hn' rfl).1; omega
                    | some ad => obtain ⟨g9, rfl, -⟩ := hg' ad rfl; exact ⟨g9, rfl⟩
                  have hgw9 : wo.heap.size ≤ g9 := by
                    have h1 := HK6.out.size
                    have h2 := HK7.out.size
                    rcases hg9 g9 rfl with h | h
                    · exact HO6.out g9 h
                    · omega
                  have HL9 := Lib.hid (ln_add w9 (S2.extract 2 S2.size) 9 hr9')
                  have HK9 := Lib.hid hk9
                  have HG9 := Lib.hid hg9
                  have hlr : (acc ++ List.replicate M ([] : Ln)).length = acc.length + M := by simp
                  clear hr9 hr9' hg9 hk9 hcell2 c37
                  go_wp2_with (at_builtin; refine wpList_append_mine _ rfl _ _ 41 rfl 9 _ 1 16 Tryd.underlying41 HI.out rfl (by decide) _ _ _ rfl HL9.out _ 1 1 [.string (S2.extract 2 S2.size)] rfl rfl (fun h => (by cases h)) (ln_at _ _ 9 _ (by simp)) (str_one _) (by unfold maxLen; omega) (by omega) ?_)
                  intro p10 c10 w10 hr10 hg10 hk10
                  have hw9 : wo.heap.size ≤ w9.heap.size := by
                    have h1 := HK6.out.size
                    have h2 := HK7.out.size
                    have h3 := HK9.out.size
                    omega
                  have hg10w : ∀ b, (Value.slice p10 (acc.length + M + 1) c10).ownBlock = some b → wo.heap.size ≤ b := fun b hb => by
                    rcases hg10 b hb with h | h
                    · simp [Value.ownBlock] at h; omega
                    · simp at h; omega
                  have hk9' : Keeps (fun j => j = B3 ∨ wo.heap.size ≤ j) w8 w10 := by
                    refine (HK9.out.mono (fun j _ h => .inr (by omega)) : Keeps (fun j => j = B3 ∨ wo.heap.size ≤ j) w8 w9).tr ?_
                    refine (((Keeps.refl (fun _ => False) w9).alloc (.cells #[.string (S2.extract 2 S2.size)] 9)).mono (fun _ _ h => h.elim) : Keeps (fun j => j = B3 ∨ wo.heap.size ≤ j) w9 _).tr (hk10.mono (fun j _ h => .inr ?_))
                    simp [Value.ownBlock] at h
                    omega
                  have hk10w : Keeps (fun j => j = B3) wo w10 := (HK6.out.tr (HK7.out.mono (fun _ _ h => h.elim)) : Keeps (fun j => j = B3) wo w8).trans hk9' (fun j hj hd => by
                    rcases hd with h | h
                    · exact h
                    · omega)
                  have h310 : w10.heap[B3]? = some (.cells #[.slice (some ⟨g, off2, none⟩) cur2.length cap6] 41 (0, 0)) :=
                    hk10.heap_some (((Keeps.refl (fun _ => False) w9).alloc _).heap_some (HK9.out.heap_some H37.out n36) (fun h => h)) (fun h => by simp [Value.ownBlock] at h; omega)
                  have hv10 : LnAt w10 g (.slice (some ⟨g, off2, none⟩) cur2.length cap6) cur2 :=
                    (((HV6.out.fresh HK7.out).keeps HK9.out (fun _ => ng6)).fresh ((Keeps.refl (fun _ => False) w9).alloc _)).keeps hk10 (fun _ h => by simp [Value.ownBlock] at h; omega)
                  have hv10 := hv10.cutv (M + 1) (by omega) (m := cur2.length - (M + 1)) rfl
                  have hn10 : ∀ b, (Value.slice p10 (acc.length + M + 1) c10).ownBlock = some b → ¬ b = B3 := fun b hb => by have := hg10w b hb; omega
                  have hr10' : Lns w10 (.slice p10 ((acc ++ List.replicate M ([] : Ln)).length + 1) c10) (acc ++ List.replicate M [] ++ [(S2.extract 2 S2.size).data.toList]) := Lns.snoc (by rw [hlr]; exact hr10)
                  rw [hlr, HXS.out] at hr10'
                  have c310 : w10.cell? ⟨B3, 0, none⟩ = some (.slice (some ⟨g, off2, none⟩) cur2.length cap6) := by rw [Lib.cell_of_heap h310]; rfl
                  have f310 : w10.frozen? ⟨B3, 0, none⟩ = false := Lib.frozen_of_heap h310 0
                  have hM1 : (M : Int) + 1 ≤ (cur2.length : Int) := by omega
                  have hM1c : (M : Int) + 1 ≤ (cap6 : Int) := by omega
                  have HR10 := Lib.hid hr10'
                  have HN10 := Lib.hid hn10
                  have HO10 := Lib.hid hg10w
                  have HK10 := Lib.hid hk10w
                  have H310 := Lib.hid h310
                  have HV10 := Lib.hid hv10
                  clear hr10 hr10' hn10 hg10w hg10 hk10 hk9' hk10w h310 hv10
                  by_cases hcap6 : cap6 = M + 1
                  · subst hcap6
                    have hv11 := HV10.out
                    rw [if_pos rfl, show cur2.length - (M + 1) = 0 by omega, Nat.sub_self] at hv11
                    have HV11 := Lib.hid hv11
                    clear hv11
                    go_wp2
                    have hb36 := boxLen_of H36.out
                    have hb12 := fun v => boxLen_of (box_put (v' := v) H310.out)
                    go_roundw
                    case rel =>
                      refine ⟨cur2.drop (M + 1), acc ++ List.replicate M [] ++ [s2.drop 2], _, box_put H310.out, HV11.out.keeps (box_keeps _ _ _) (fun _ => hg3), by have := tot_drop cur2 (M + 1); omega, ?_, by simp, HO10.out, HK10.out.setCell (p := ⟨B3, 0, none⟩) (fun _ => rfl) _, HX8.out, HY8.out⟩
                      exact HR10.out.kept (box_keeps _ _ _) HN10.out
                    case measure =>
                      rw [hb36, hb12]
                      simp only [slen]
                      omega
                  · have hv11 := HV10.out
                    rw [if_neg hcap6] at hv11
                    have HV11 := Lib.hid hv11
                    clear hv11
                    go_wp2
                    have hb36 := boxLen_of H36.out
                    have hb12 := fun v => boxLen_of (box_put (v' := v) H310.out)
                    go_roundw
                    case rel =>
                      refine ⟨cur2.drop (M + 1), acc ++ List.replicate M [] ++ [s2.drop 2], _, box_put H310.out, HV11.out.keeps (box_keeps _ _ _) (fun _ => hg3), by have := tot_drop cur2 (M + 1); omega, ?_, by simp, HO10.out, HK10.out.setCell (p := ⟨B3, 0, none⟩) (fun _ => rfl) _, HX8.out, HY8.out⟩
                      exact HR10.out.kept (box_keeps _ _ _) HN10.out
                    case measure =>
                      rw [hb36, hb12]
                      simp only [slen]
                      omega
              · obtain rfl : M = cur2.length := by omega
                have hls := itm_end (l := cur2) (by rw [HMM.out, List.drop_length])
                have hx := HX6.out
                have hy := HY6.out
                rw [hls] at hx hy
                have hx2 : acc = IN := by simpa using hx
                have hy2 : cur2 = T2 := hy
                have HX7 := Lib.hid hx2
                have HY7 := Lib.hid hy2
                clear hls hx hy hx2 hy2 hlt2
                go_wp2
                go_meet
                refine ⟨_, HK7.out.heap_some H36.out (fun h => h), ?_, ?_, HO6.out, HK6.out.tr (HK7.out.mono (fun _ _ h => h.elim))⟩
                · rw [← HY7.out]; exact HV6.out.fresh HK7.out
                · rw [← HX7.out]; exact HIN6.out.fresh HK7.out
          case rest =>
            obtain ⟨v7, h37, hv7, hin7, ho7, hk7⟩ := hcut
            obtain ⟨gv, hat, hgv⟩ := hin7.atB
            have hw1 : wo.heap.size ≤ wc.heap.size := hk7.size
            have ho1 : ∀ b, o1 b → b < wo.heap.size := HE.out.lt HF.out
            have nC1 : ¬ o1 C := HM.out.not hCw hC
            have n21 : ¬ o1 B2 := HM.out.not hB2w n2
            have n31 : ¬ o1 B3 := HM.out.not hB3w n3
            have ng1 : ¬ o1 g := HM.out.not hgw hg.1
            have c2 : wc.cell? ⟨B2, 0, none⟩ = some (.pointer (some ⟨C, 0, none⟩)) := hk7.cell_some (by rw [Lib.cell_of_heap (HM.out.heap H2.out n2 (fun h => n23 h))]; rfl) (fun h => n23 h)
            have hfd := Fnd.keeps (Fnd.mvx H.out HM.out hC (fun h => nC3 h)) hk7 (fun h => nC3 h)
            have hFc := HE.out.keep HF.out hk7 (fun b hb => by rw [hb]; exact n31)
            have hdp := deeper_any HE.out n HIH.out C d gv 4 _ IN wc (L ++ done) o1 hfd hat hFc nC1 (fun hne => by
              have := ho7 gv (hgv hne)
              exact ⟨fun h => by have := ho1 _ h; omega, by omega⟩) (by omega) (by omega) hd ⟨(lst f T2).1.flatMap (itE n d) ++ rest, by rw [← HR.out, ← HX3.out]; simp [itE]⟩
            have HDP := Lib.hid hdp
            have H37 := Lib.hid h37
            have HV7 := Lib.hid hv7
            have HK7 := Lib.hid hk7
            clear hdp h37 hv7 hin7 hk7 hat hgv hfd hFc
            go_wp2_with fail
            refine HDP.out.mono ?_
            rintro e w8 ⟨rfl, o2, hF8, hm8⟩
            have hm9 : MvX (fun j => j = B3) o o2 w w8 := HM.out.trans (mvx_of HK7.out hm8)
            have h38 := hm8.heap H37.out n31
            have hv8 := HV7.out.mv hm8 (fun _ => ng1)
            have hF9 : F w8 (L ++ (done ++ itE n d IN)) o2 := by
              have e1 : L ++ (done ++ itE n d IN) = L ++ done ++ (bgE 4 :: (blkF n (d + 1) IN ++ [fnE 4])) := by simp [itE]
              rw [e1]
              exact hF8
            have hx9 : (done ++ itE n d IN) ++ (lst f T2).1.flatMap (itE n d) = X := by rw [← HX3.out]; simp
            have hb9 := boxLen_of h38
            have hb0 := boxLen_of H3.out
            have H38 := Lib.hid h38
            have HV8 := Lib.hid hv8
            have HF9 := Lib.hid hF9
            have HM9 := Lib.hid hm9
            have HX9 := Lib.hid hx9
            obtain ⟨a8, c8, rfl⟩ := hv8.form
            clear hF8 hm8 h38 hv8 hF9 hm9 hx9
            go_wp2
            go_roundw
            case rel => exact ⟨f, T2, _, _, o2, H38.out, HV8.out, by omega, hT2l, HF9.out, HM9.out, HX9.out, HY3.out⟩
            case measure =>
              rw [hb9, hb0]
              simp only [slen]
              omega
    · obtain rfl : N = cur.length := by omega
      have hls : lst f cur = ([], cur) := lst_stop (.inl (by rw [HN.out, List.drop_length]))
      have hx := HX.out
      have hy := HY.out
      rw [hls] at hx hy
      have hx2 : done = X := by simpa using hx
      have hy2 : cur = Z := hy
      have HX2 := Lib.hid hx2
      have HY2 := Lib.hid hy2
      clear hls hx hy hx2 hy2 hlt
      go_wp2
      go_end0
      have hm3 := HM.out.trans (MvX.of (Mv.fresh HK2.out))
      refine ⟨rfl, o1, ?_, hm3, _, HK2.out.heap_some H3.out (fun h => h), ?_, hm3.not hB3w n3, hm3.not hgw hg.1⟩
      · rw [← HX2.out]; exact HE.out.fresh HF.out HK2.out
      · rw [← HY2.out]; exact HV.out.fresh HK2.out
end
end Go.Proofs.YtbioecifiogffaaDoor
