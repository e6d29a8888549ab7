/- gather.All: what comes of a source, as the document's come has it. Condition: texts and lists of at most 2^20 elements. -/
import Derived.Test.YtbioecifiogffaaDoorRead
import Derived.Test.YtbioecifiogffaaDoorErrs
namespace Go.Proofs.YtbioecifiogffaaDoor
open Go.RowKit

/-- What an error value is told as; aL, aI, aS: where the three sentinels lie. -/
def ErrIs (aL aI aS : Addr) (W : World) (v : Value) (code n : Nat) : Prop :=
  (code = 0 ∧ n = 0 ∧ v = .nilIface) ∨ (code = 1 ∧ n = 0 ∧ v = .iface 197 (.pointer (some aL))) ∨ (code = 2 ∧ n = 0 ∧ v = .iface 197 (.pointer (some aI))) ∨
  (code = 3 ∧ ∃ a, v = .iface 78 (.pointer (some ⟨a, 0, none⟩)) ∧ W.heap[a]? = some (.cells #[.int .i64 n, .iface 197 (.pointer (some aS))] 79 (0, 0))) ∨
  (code = 4 ∧ ∃ a c x, v = .iface 71 (.pointer (some ⟨a, 0, none⟩)) ∧ W.heap[a]? = some (.cells #[.int .i64 n, .iface 70 (.pointer (some ⟨c, 0, none⟩))] 77 (0, 0)) ∧ W.heap[c]? = some (.cells #[.int .i64 x] 211 (0, 0))) ∨
  (code = 5 ∧ ∃ a c x, v = .iface 78 (.pointer (some ⟨a, 0, none⟩)) ∧ W.heap[a]? = some (.cells #[.int .i64 n, .iface 70 (.pointer (some ⟨c, 0, none⟩))] 79 (0, 0)) ∧ W.heap[c]? = some (.cells #[.int .i64 x] 211 (0, 0)))

theorem Read_ok (b g : Nat) (rest : ByteArray) (cuts : List Int) (fa : Int) (wt : Bool) (reads : Nat) (w : World) (h : SrcAt w b g rest cuts fa wt reads false) (hr : reads ≤ 4194304) (hs : rest.size ≤ 1048576) (hcs : cuts.length ≤ 1048576)
    (hc : ∀ x ∈ cuts, -9223372036854775808 ≤ x ∧ x ≤ 9223372036854775807) (hf : ¬ (reads : Int) + 1 = fa) :
    Calls Tryd.prog 165 #[.pointer (some ⟨b, 0, none⟩)] w fun e w' => ∃ (p rest' : ByteArray) (over : Bool),
      e = .returned (.tuple #[.string p, .bool (doneOf wt rest.data.toList cuts), .nilIface]) ∧ p.data.toList = pieceOf rest.data.toList cuts ∧ rest'.data.toList = rest.data.toList.drop p.data.toList.length ∧
      SrcAt w' b g rest' cuts.tail fa wt (reads + 1) over ∧ (doneOf wt rest.data.toList cuts = false → over = false) ∧ Keeps (fun k => k = b) w w' := by
  cases cuts with
  | nil =>
    refine (Read_rest b g rest fa wt reads w h hr hf).mono ?_
    rintro e w' ⟨rfl, h1, h2⟩
    exact ⟨rest, .empty, _, rfl, rfl, by simp, h1, fun h => h, h2⟩
  | cons c cs =>
    refine (Read_cut b g rest c cs fa wt reads w h hr hs (by simp at hcs; omega) (hc c (by simp)) hf).mono ?_
    rintro e w' ⟨p, r, rfl, h1, h2, h3, h4⟩
    exact ⟨p, r, false, rfl, h1, h2, h3, fun _ => rfl, h4⟩

theorem Tryd.methodRead (p : Addr) (w : World) : (Go.method 329 50 (.pointer (some p)) "Read").run Tryd.prog w = .ok (165, .pointer (some p)) w := by kernel_rfl

set_option maxHeartbeats 4000000 in
set_option maxRecDepth 1000000 in
theorem All_any (aL aI aS : Addr) (b g : Nat) (s : ByteArray) (cs : List Int) (fa : Int) (wt : Bool) (w : World) (h : SrcAt w b g s cs fa wt 0 false) (hg : g < w.heap.size) (hs : s.size ≤ 1048576) (hl : cs.length ≤ 1048576) (hw : ∀ x ∈ cs, -9223372036854775808 ≤ x ∧ x ≤ 9223372036854775807)
    (hL : w.cell? ⟨0, 0, none⟩ = some (.iface 197 (.pointer (some aL)))) (hI : w.cell? ⟨1, 0, none⟩ = some (.iface 197 (.pointer (some aI)))) (hbL : b ≠ 0) (hbI : b ≠ 1) :
    Calls Tryd.prog 35 #[.iface 50 (.pointer (some ⟨b, 0, none⟩))] w fun e w' => ∃ v,
      e = .returned (.tuple #[.string ⟨(comeL s.data.toList cs fa wt).text.toArray⟩, v]) ∧ ErrIs aL aI aS w' v (comeL s.data.toList cs fa wt).err (comeL s.data.toList cs fa wt).n ∧
      w'.cell? ⟨b, 4, none⟩ = some (.int .i64 (comeL s.data.toList cs fa wt).reads) ∧ Keeps (fun k => k = b) w w' := by
  obtain ⟨T, hT⟩ : ∃ T, T = comeL s.data.toList cs fa wt := ⟨_, rfl⟩
  rw [← hT]
  have HT := Lib.hid hT
  have hbl := h.lt
  have HSR := Lib.hid h
  have HWB := Lib.hid hw
  have mR := Tryd.methodRead ⟨b, 0, none⟩
  have hLl := World.block_lt_of_cell? w _ hL
  have hIl := World.block_lt_of_cell? w _ hI
  have HL := Lib.hid hL
  have HI := Lib.hid hI
  have HBL := Lib.hid hbL
  have HBI := Lib.hid hbI
  clear hT h hw hL hI hbL hbI
  go_enter Tryd.func35, Tryd.ntmps35
  go_wp2_with fail
  go_loopw [5] (fun id wr => ∃ (k ii f gb : Nat) (rb : ByteArray) (acc : List UInt8) (cuts : List Int), id = .int .i64 ii ∧ BIs wr w.heap.size gb (Lib.byteCells acc) ∧ w.heap.size ≤ gb ∧ SrcAt wr b g rb cuts fa wt k false ∧ Keeps (fun j => j = b) w wr ∧
      comeGo fa wt f k rb.data.toList acc ii cuts = T ∧ fuelFor f rb.data.toList cuts ∧ k + f = cs.length + 2 ∧ acc.length + rb.size ≤ 1048576 ∧ ii ≤ 2 ∧ cuts.length ≤ 1048576 ∧ (∀ x ∈ cuts, -9223372036854775808 ≤ x ∧ x ≤ 9223372036854775807)) (fun _ wr => cs.length + 2 - (match wr.cell? ⟨b, 4, none⟩ with | some (.int _ n) => n.toNat | _ => 0))
  case atStart =>
    refine ⟨0, 0, cs.length + 2, w.heap.size, s, [], cs, rfl, BIs.fresh w _, Nat.le_refl _, HSR.out.kept ((Keeps.refl (fun _ => False) w).alloc _) (fun h => h) (fun h => h), (Keeps.refl _ w).alloc _, HT.out.symm, fuelFor_start _ _, by omega, by simp; omega, by omega, hl, HWB.out⟩
  case round =>
    obtain ⟨k, ii, f, gb, rb, acc, cuts, rfl, hB, hgb, hS, hK, hgo, hfu, hkf, hsz, hid, hcl, hcb⟩ := hrel
    obtain ⟨f, rfl⟩ : ∃ f', f = f' + 1 := ⟨f - 1, by have := hfu.1; omega⟩
    have hm0 : wr.cell? ⟨b, 4, none⟩ = some (.int .i64 k) := by obtain ⟨_, _, _, ⟨_, _, _, _, h4, _⟩, _⟩ := hS.parts; exact h4
    have HM0 := Lib.hid hm0
    clear hm0
    by_cases hfail : (k : Int) + 1 = fa
    · have hres : T = ⟨[], 4, acc.length, k + 1⟩ := by rw [← hgo, comeGo_succ, if_pos hfail]
      have HR := Lib.hid hres
      have hcall := Read_fail b g rb cuts fa wt k false wr hS (by omega) hfail
      have HCA := Lib.hid hcall
      have HB := Lib.hid hB
      have HS := Lib.hid hS
      have HK := Lib.hid hK
      clear hcall hres hfail hgo hfu hB hS hK hcb
      -- FAIL
      go_wp2_with (go_at_call 165; refine HCA.out.mono ?_)
      rintro e w1 ⟨⟨lost, rfl⟩, hnew, hS1, hk1⟩
      have hB1 : BIs w1 w.heap.size gb (Lib.byteCells acc) := HB.out.kept hk1 (by omega) (fun _ => by omega)
      have hLen := Builder_Len _ gb _ _ hB1
      have hrd : w1.cell? ⟨b, 4, none⟩ = some (.int .i64 ((k + 1 : Nat) : Int)) := by obtain ⟨_, _, _, ⟨_, _, _, _, h4, _⟩, _⟩ := hS1.parts; exact h4
      have hk2 := HK.out.tr hk1
      have hbl1 : b < w1.heap.size := hS1.lt
      have HLEN := Lib.hid hLen
      have HRD := Lib.hid hrd
      have HNEW := Lib.hid hnew
      have HK2 := Lib.hid hk2
      clear hLen hrd hnew hS1 hk1 hk2 hB1
      go_wp2_with (go_at_call 52; refine HLEN.out.mono ?_; rintro e w3 ⟨rfl, rfl⟩)
      go_ret2
      refine ⟨_, by rw [show T = _ from HR.out]; rfl, .inr (.inr (.inr (.inr (.inl ⟨by rw [show T = _ from HR.out], w1.heap.size, wr.heap.size, (k : Int) + 1, rfl, ?_, ?_⟩)))), ?_, HK2.out.alloc _⟩
      · rw [show T = _ from HR.out, heap_alloc_new]
        simp [Lib.byteCells_length]
      · exact (Below.heap_alloc w1 _ _ (Array.getElem?_eq_some_iff.1 HNEW.out).1).trans HNEW.out
      · rw [show T = _ from HR.out]
        exact (World.cell?_alloc_lt _ _ _ hbl1).trans HRD.out
    · have hcall := Read_ok b g rb cuts fa wt k wr hS (by omega) (by omega) hcl hcb hfail
      have hsteps := hgo
      rw [comeGo_succ, if_neg hfail] at hsteps
      have hfs := @fuelFor_step _ _ _ wt hfu
      have hple := pieceOf_le rb.data.toList cuts
      have HCA := Lib.hid hcall
      have HB := Lib.hid hB
      have HS := Lib.hid hS
      have HK := Lib.hid hK
      have HSt0 := Lib.hid hsteps
      have HFs0 := Lib.hid hfs
      have HPL := Lib.hid hple
      have HCB := Lib.hid hcb
      clear hcall hfail hgo hfu hB hS hK hcb hsteps hfs hple
      go_wp2_with (go_at_call 165; refine HCA.out.mono ?_)
      rintro e w1 ⟨p, r, over, rfl, hp1, hr1, hS1, hov, hk1⟩
      have hB1 : BIs w1 w.heap.size gb (Lib.byteCells acc) := HB.out.kept hk1 (by omega) (fun _ => by omega)
      have hpsz : p.size ≤ rb.size := by
        have h1 := HPL.out
        rw [← hp1] at h1
        simpa using h1
      have hws := Builder_WriteString _ gb _ p w1 hB1 (by rw [Lib.byteCells_length]; omega)
      have hrs : acc.length + p.size + r.size ≤ acc.length + rb.size := by
        have : r.data.toList.length = rb.data.toList.length - p.data.toList.length := by rw [hr1, List.length_drop]
        simp at this
        omega
      have HSt : Hid _ := HSt0.out
      have HFs : Hid _ := HFs0.out
      rw [← hp1] at HSt HFs
      generalize doneOf wt rb.data.toList cuts = d at *
      have HWS := Lib.hid hws
      have HR1 := Lib.hid hr1
      have HS1 := Lib.hid hS1
      have HOV := Lib.hid hov
      have HK1 := Lib.hid hk1
      have HRS := Lib.hid hrs
      have hll : (acc ++ p.data.toList).length = acc.length + p.size := by simp
      have HLL := Lib.hid hll
      clear hws hp1 hr1 hS1 hov hk1 hrs hll hB1
      go_wp2_with (go_at_call 53; refine HWS.out.mono ?_)
      rintro e w2 ⟨rfl, g2, hB2, hg2, hk2⟩
      have hbl1 : b < w1.heap.size := HS1.out.lt
      have hw1s : w.heap.size ≤ w1.heap.size := Nat.le_trans HK.out.size HK1.out.size
      have hgg : w.heap.size ≤ g2 := by omega
      have hkb : Keeps (fun j => j = b) w w2 := (HK.out.tr HK1.out).trans hk2 (fun j h1 h2 => by omega)
      have hS2 : SrcAt w2 b g r cuts.tail fa wt (k + 1) over := HS1.out.kept hk2 (by omega) (by omega)
      have hrd : w2.cell? ⟨b, 4, none⟩ = some (.int .i64 ((k + 1 : Nat) : Int)) := by obtain ⟨_, _, _, ⟨_, _, _, _, h4, _⟩, _⟩ := hS2.parts; exact h4
      have hB3 : BIs w2 w.heap.size g2 (Lib.byteCells (acc ++ p.data.toList)) := by rw [Lib.byteCells_append, ← Lib.strCells_eq]; exact hB2
      have hLen : Calls Tryd.prog 52 #[.pointer (some ⟨w.heap.size, 0, none⟩)] w2 fun e w' => e = .returned (.int .i64 ((acc.length + p.size : Nat) : Int)) ∧ w2 = w' := by
        have := Builder_Len _ g2 _ _ hB3
        rw [Lib.byteCells_length, HLL.out] at this
        exact this
      have hgL : w2.cell? ⟨0, 0, none⟩ = some (.iface 197 (.pointer (some aL))) := hkb.cell_some HL.out (fun h => HBL.out h.symm)
      have hgI : w2.cell? ⟨1, 0, none⟩ = some (.iface 197 (.pointer (some aI))) := hkb.cell_some HI.out (fun h => HBI.out h.symm)
      have hne : ∀ j, j = b → j < w2.heap.size ∧ ¬ j = g2 := fun j h => by have := hk2.size; omega
      have HKB := Lib.hid hkb
      have HS2 := Lib.hid hS2
      have HRD := Lib.hid hrd
      have HB2 := Lib.hid hB3
      have HLEN := Lib.hid hLen
      have HG2 := Lib.hid hgg
      have HNE := Lib.hid hne
      clear hB2 hg2 hk2 hgg hkb hS2 hrd hB3 hLen hne
      by_cases hlong : 300 < acc.length + p.size
      · have hres : T = ⟨[], 1, 0, k + 1⟩ := by rw [← HSt.out, if_pos (by rw [HLL.out]; exact hlong)]
        have HR := Lib.hid hres
        clear hres
        by_cases hp : p.data.toList = []
        · have hb1 : p.toList.isEmpty = true := by rw [ByteArray.toList_eq, hp]; rfl
          have hb2 : p.toList = [] := by rw [ByteArray.toList_eq, hp]
          clear hp
          go_wp2_with (go_at_call 52; refine HLEN.out.mono ?_; rintro e w3 ⟨rfl, rfl⟩)
          go_quiet (fail)
          go_wp2_with fail
          go_ret2
          exact ⟨_, by rw [show T = _ from HR.out]; rfl, .inr (.inl ⟨by rw [show T = _ from HR.out], by rw [show T = _ from HR.out], rfl⟩), by rw [show T = _ from HR.out]; exact HRD.out, HKB.out.drewN _⟩
        · have hb1 : p.toList.isEmpty = false := by rw [ByteArray.toList_eq]; simpa using hp
          clear hp
          go_wp2_with (go_at_call 52; refine HLEN.out.mono ?_; rintro e w3 ⟨rfl, rfl⟩)
          go_quiet (fail)
          go_wp2_with fail
          go_ret2
          exact ⟨_, by rw [show T = _ from HR.out]; rfl, .inr (.inl ⟨by rw [show T = _ from HR.out], by rw [show T = _ from HR.out], rfl⟩), by rw [show T = _ from HR.out]; exact HRD.out, HKB.out.drewN _⟩
      · by_cases hp : p.data.toList = []
        · have hb1 : p.toList.isEmpty = true := by rw [ByteArray.toList_eq, hp]; rfl
          have hb2 : p.toList = [] := by rw [ByteArray.toList_eq, hp]
          have HPE := Lib.hid hp
          clear hp
          cases d
          · by_cases hidl : ii = 2
            · have hres : T = ⟨[], 2, 0, k + 1⟩ := by rw [← HSt.out, if_neg (by rw [HLL.out]; exact hlong)]; simp [hidl, show p.data.toList = [] from HPE.out]
              have HR := Lib.hid hres
              subst hidl
              clear hres
              go_wp2_with (go_at_call 52; refine HLEN.out.mono ?_; rintro e w3 ⟨rfl, rfl⟩)
              go_quiet (fail)
              go_wp2_with fail
              go_ret2
              exact ⟨_, by rw [show T = _ from HR.out]; rfl, .inr (.inr (.inl ⟨by rw [show T = _ from HR.out], by rw [show T = _ from HR.out], rfl⟩)), by rw [show T = _ from HR.out]; exact HRD.out, HKB.out.drewN _⟩
            · have hff : fuelFor f (rb.data.toList.drop p.data.toList.length) cuts.tail := by
                obtain ⟨f2, e2, h2⟩ := HFs.out rfl
                have : f = f2 := by omega
                subst this
                exact h2
              have hgo2 : comeGo fa wt f (k + 1) (rb.data.toList.drop p.data.toList.length) (acc ++ p.data.toList) (ii + 1) cuts.tail = T := by
                rw [← HSt.out, if_neg (by rw [HLL.out]; exact hlong)]
                simp [show p.data.toList = [] from HPE.out, show ¬ 2 < ii + 1 by omega]
              have HGo := Lib.hid hgo2
              have HFF := Lib.hid hff
              clear hgo2 hff
              go_wp2_with (go_at_call 52; refine HLEN.out.mono ?_; rintro e w3 ⟨rfl, rfl⟩)
              go_roundw
              case rel =>
                refine ⟨k + 1, (ii + 1), f, g2, r, acc ++ p.data.toList, cuts.tail, by go_num, HB2.out, HG2.out, (HOV.out trivial) ▸ HS2.out, HKB.out, by rw [HR1.out]; exact HGo.out, by rw [HR1.out]; exact HFF.out, by omega, ?_, by omega, by simp; omega, fun x hx => HCB.out x (List.mem_of_mem_tail hx)⟩
                have h1 := HRS.out
                simp only [List.length_append]
                have h2 : p.data.toList.length = p.size := by simp
                omega
              case measure =>
                rw [HRD.out, HM0.out]
                simp
                omega
          · have hres : T = ⟨regular ⟨(acc ++ p.data.toList).toArray⟩, 0, 0, k + 1⟩ := by
              rw [← HSt.out, if_neg (by rw [HLL.out]; exact hlong), if_neg (by simp), if_pos rfl]
            have HR := Lib.hid hres
            clear hres
            go_wp2_with (go_at_call 52; refine HLEN.out.mono ?_; rintro e w3 ⟨rfl, rfl⟩)
            refine (Builder_String _ g2 _ _ HB2.out).mono ?_
            rintro e w4 ⟨rfl, hk4⟩
            have HK4 := Lib.hid hk4
            clear hk4
            go_wp2_with fail
            have hsz5 : (⟨(acc ++ p.data.toList).toArray⟩ : ByteArray).size ≤ 1099511627776 := by
              show (acc ++ p.data.toList).toArray.size ≤ _
              have h1 := HLL.out
              rw [List.size_toArray, h1]
              omega
            refine (Regular_any _ _ hsz5).mono ?_
            rintro e w5 ⟨rfl, hf5⟩
            have HK5 := Lib.hid hf5
            clear hf5
            go_wp2_with fail
            go_ret2
            have hz : ∀ j, j = b → j < w2.heap.size ∧ ¬ j = g2 := HNE.out
            refine ⟨_, by rw [show T = _ from HR.out]; rfl, .inl ⟨by rw [show T = _ from HR.out], by rw [show T = _ from HR.out], rfl⟩, ?_, ?_⟩
            · rw [show T = _ from HR.out]
              exact HK5.out.cell_some (HK4.out.cell_some HRD.out (hz b rfl).2) (fun h => h)
            · exact (HKB.out.trans HK4.out (fun j h1 h2 => by subst h2; have := HG2.out; omega)).trans HK5.out (fun _ _ h => h.elim)
        · have hb1 : p.toList.isEmpty = false := by rw [ByteArray.toList_eq]; simpa using hp
          have HPN := Lib.hid hp
          clear hp
          cases d
          · have hff : fuelFor f (rb.data.toList.drop p.data.toList.length) cuts.tail := by
              obtain ⟨f2, e2, h2⟩ := HFs.out rfl
              have : f = f2 := by omega
              subst this
              exact h2
            have hgo2 : comeGo fa wt f (k + 1) (rb.data.toList.drop p.data.toList.length) (acc ++ p.data.toList) 0 cuts.tail = T := by
              rw [← HSt.out, if_neg (by rw [HLL.out]; exact hlong)]
              simp [show ¬ p.data.toList = [] from HPN.out]
            have HGo := Lib.hid hgo2
            have HFF := Lib.hid hff
            clear hgo2 hff
            go_wp2_with (go_at_call 52; refine HLEN.out.mono ?_; rintro e w3 ⟨rfl, rfl⟩)
            go_roundw
            case rel =>
              refine ⟨k + 1, 0, f, g2, r, acc ++ p.data.toList, cuts.tail, by go_num, HB2.out, HG2.out, (HOV.out trivial) ▸ HS2.out, HKB.out, by rw [HR1.out]; exact HGo.out, by rw [HR1.out]; exact HFF.out, by omega, ?_, by omega, by simp; omega, fun x hx => HCB.out x (List.mem_of_mem_tail hx)⟩
              have h1 := HRS.out
              simp only [List.length_append]
              have h2 : p.data.toList.length = p.size := by simp
              omega
            case measure =>
              rw [HRD.out, HM0.out]
              simp
              omega
          · have hres : T = ⟨regular ⟨(acc ++ p.data.toList).toArray⟩, 0, 0, k + 1⟩ := by
              rw [← HSt.out, if_neg (by rw [HLL.out]; exact hlong), if_neg (by simp), if_pos rfl]
            have HR := Lib.hid hres
            clear hres
            go_wp2_with (go_at_call 52; refine HLEN.out.mono ?_; rintro e w3 ⟨rfl, rfl⟩)
            refine (Builder_String _ g2 _ _ HB2.out).mono ?_
            rintro e w4 ⟨rfl, hk4⟩
            have HK4 := Lib.hid hk4
            clear hk4
            go_wp2_with fail
            have hsz5 : (⟨(acc ++ p.data.toList).toArray⟩ : ByteArray).size ≤ 1099511627776 := by
              show (acc ++ p.data.toList).toArray.size ≤ _
              have h1 := HLL.out
              rw [List.size_toArray, h1]
              omega
            refine (Regular_any _ _ hsz5).mono ?_
            rintro e w5 ⟨rfl, hf5⟩
            have HK5 := Lib.hid hf5
            clear hf5
            go_wp2_with fail
            go_ret2
            have hz : ∀ j, j = b → j < w2.heap.size ∧ ¬ j = g2 := HNE.out
            refine ⟨_, by rw [show T = _ from HR.out]; rfl, .inl ⟨by rw [show T = _ from HR.out], by rw [show T = _ from HR.out], rfl⟩, ?_, ?_⟩
            · rw [show T = _ from HR.out]
              exact HK5.out.cell_some (HK4.out.cell_some HRD.out (hz b rfl).2) (fun h => h)
            · exact (HKB.out.trans HK4.out (fun j h1 h2 => by subst h2; have := HG2.out; omega)).trans HK5.out (fun _ _ h => h.elim)
end Go.Proofs.YtbioecifiogffaaDoor
