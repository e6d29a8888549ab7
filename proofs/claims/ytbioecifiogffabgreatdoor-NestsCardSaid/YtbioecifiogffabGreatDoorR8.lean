/- Texts of this proof, joined: Snk, Wrt, Wrt2, Htm1, Htm2, Htm3, Htm4. Conditions: as each theorem names them. -/
import Derived.Test.YtbioecifiogffabGreatDoorR2
import Derived.Test.YtbioecifiogffabGreatDoorR1
import Derived.Test.YtbioecifiogffabGreatDoorR6
import Derived.Test.YtbioecifiogffabGreatDoorR4
import Derived.BigQuiet
import Derived.Deep.QuietTactic
import Derived.Deep.Draws
import Derived.Deep.DeepCutAuto
set_option linter.unusedVariables false
set_option linter.unusedSimpArgs false
set_option maxHeartbeats 8000000
set_option maxRecDepth 1000000
namespace Go.Proofs.YtbioecifiogffabGreatDoor
open Go.RowKit
def SnkAt (w : World) (S : Nat) (tv gv : Value) (sk : Snk) : Prop :=
 w.heap[S]? = some (.cells #[tv, .int .i64 sk.pos, .int .i64 sk.failAt, .int .i64 sk.lieAt, .int .i64 sk.lie, .int .i64 sk.offers, .int .i64 sk.most, .bool sk.none, gv] 52 (0, 0)) ∧
  w.ownsRow 0 5 1 gv sk.got.length (Lib.byteCells sk.got)
theorem SnkAt.kept {D : Nat → Prop} {w w' : World} {S : Nat} {tv gv : Value} {sk : Snk} (h : SnkAt w S tv gv sk) (hk : Keeps D w w') (hS : ¬ D S) (hg : ∀ b, gv.ownBlock = some b → ¬ D b) : SnkAt w' S tv gv sk :=
 ⟨hk.heap_some h.1 hS, own_kept h.2 hk hg⟩
theorem SnkAt.fresh {w w' : World} {S : Nat} {tv gv : Value} {sk : Snk} (h : SnkAt w S tv gv sk) (hk : Fresh w w') : SnkAt w' S tv gv sk := h.kept hk (fun h => h) (fun _ _ h => h)
def TakeErr (f : Bool) (ev : Value) (w : World) : Prop :=
 if f then ∃ (c : Nat) (x : Int), ev = .iface 82 (.pointer (some ⟨c, 0, none⟩)) ∧ w.heap[c]? = some (.cells #[.int .i64 x] 255 (0, 0)) else ev = .nilIface
theorem cells_put {w : World} {g : Nat} {cur : Array Value} {t : TypeId} (h : w.heap[g]? = some (.cells cur t (0, 0))) (j : Nat) (v : Value) : ∃ cur' : Array Value, (w.setCell ⟨g, j, none⟩ v).heap[g]? = some (.cells cur' t (0, 0)) ∧ cur'.size = cur.size := by
 refine ⟨cur.setIfInBounds j v, ?_, by simp⟩
 simp [World.setCell, Array.getElem?_modify, h]
theorem cnt_val (sk : Snk) (m : Nat) (h : sk.takes ≠ []) : ((sk.cnt m : Nat) : Int) = min (m : Int) (max 1 (sk.takes.getD (sk.pos % sk.takes.length) 0)) := by
 unfold Snk.cnt
 rw [if_neg h]
 omega
def TakeOK (S gb : Nat) (tv gv : Value) (sk : Snk) (b : List UInt8) (w : World) (e : Ending) (w' : World) : Prop :=
 ∃ ev gv', e = .returned (.tuple #[.int .i64 (sk.says b.length), ev]) ∧ SnkAt w' S tv gv' (sk.took b) ∧ Keeps (fun j => j = S ∨ gv.ownBlock = some j ∨ j = gb) w w' ∧ Grow w gv gv' ∧ TakeErr sk.fails ev w'
theorem Take_any (S gb : Nat) (tv gv : Value) (sk : Snk) (b : List UInt8) (cap : Nat) (w : World) (h : SnkAt w S tv gv sk) (hI : ∀ W : World, Keeps (fun j => j = S) w W → IntsAt W tv sk.takes) (hIl : sk.takes.length ≤ 1048576)
 (hb : w.ownsRow 0 5 1 (.slice (some ⟨gb, 0, none⟩) b.length cap) b.length (Lib.byteCells b)) (hne : b ≠ []) (hl : b.length ≤ 16) (ho : sk.offers ≤ 1099511627776) (hp : sk.pos ≤ 1099511627776) (hg : sk.got.length ≤ 1099511627776) (hm : sk.most ≤ 1099511627776) (hnn : sk.none = false)
 (hgb : gb ≠ S ∧ ¬ gv.ownBlock = some gb) :
 Calls Tryz.prog 171 #[.pointer (some ⟨S, 0, none⟩), .slice (some ⟨gb, 0, none⟩) b.length cap] w (TakeOK S gb tv gv sk b w) := by
 obtain ⟨hS, hgv⟩ := h
 have c0 : w.cell? ⟨S, 0, none⟩ = some tv := by rw [Lib.cell_of_heap hS]; rfl
 have c1 : w.cell? ⟨S, 1, none⟩ = some (.int .i64 sk.pos) := by rw [Lib.cell_of_heap hS]; rfl
 have c2 : w.cell? ⟨S, 2, none⟩ = some (.int .i64 sk.failAt) := by rw [Lib.cell_of_heap hS]; rfl
 have c3 : w.cell? ⟨S, 3, none⟩ = some (.int .i64 sk.lieAt) := by rw [Lib.cell_of_heap hS]; rfl
 have c4 : w.cell? ⟨S, 4, none⟩ = some (.int .i64 sk.lie) := by rw [Lib.cell_of_heap hS]; rfl
 have c5 : w.cell? ⟨S, 5, none⟩ = some (.int .i64 sk.offers) := by rw [Lib.cell_of_heap hS]; rfl
 have c6 : w.cell? ⟨S, 6, none⟩ = some (.int .i64 sk.most) := by rw [Lib.cell_of_heap hS]; rfl
 have c7 : w.cell? ⟨S, 7, none⟩ = some (.bool false) := by rw [Lib.cell_of_heap hS, ← hnn]; rfl
 have c8 : w.cell? ⟨S, 8, none⟩ = some gv := by rw [Lib.cell_of_heap hS]; rfl
 have fS : ∀ k, w.frozen? ⟨S, k, none⟩ = false := fun k => Lib.frozen_of_heap hS k
 have hbl : 0 < b.length := List.length_pos_iff.2 hne
 obtain ⟨at0, tcap, rfl⟩ := (hI w (Keeps.refl _ _)).form
 have HS := Lib.hid hS
 have HGV := Lib.hid hgv
 have HI := Lib.hid hI
 have HB := Lib.hid hb
 have HNN := Lib.hid hnn
 have hbz : ((b.length : Int) == 0) = false := by rw [beq_eq_false_iff_ne]; omega
 clear hS hgv hI hb hne hnn
 go_enter Tryz.func171, Tryz.ntmps171
 go_upto_region 5 with fail
 refine name_world fun W hW => ?_
 have hkW : Keeps (fun j => j = S) w W := by
  rw [hW]
  exact (((Keeps.refl (fun j => j = S) w).setCell (p := ⟨S, 5, none⟩) (fun _ => rfl) _).setCell (p := ⟨S, 6, none⟩) (fun _ => rfl) _).setCell (p := ⟨S, 7, none⟩) (fun _ => rfl) _
 have hSW : W.heap[S]? = some (.cells #[.slice at0 sk.takes.length tcap, .int .i64 sk.pos, .int .i64 sk.failAt, .int .i64 sk.lieAt, .int .i64 sk.lie, .int .i64 ((sk.offers : Int) + 1), .int .i64 (max (sk.most : Int) (b.length : Int)), .bool false, gv] 52 (0, 0)) := by
  rw [hW]
  simp [World.setCell, Array.getElem?_modify, HS.out]
 have hIW : IntsAt W (.slice at0 sk.takes.length tcap) sk.takes := HI.out W hkW
 clear hW c0 c1 c2 c3 c4 c5 c6 c7 c8 fS
 have d0 : W.cell? ⟨S, 0, none⟩ = some (.slice at0 sk.takes.length tcap) := by rw [Lib.cell_of_heap hSW]; rfl
 have d1 : W.cell? ⟨S, 1, none⟩ = some (.int .i64 sk.pos) := by rw [Lib.cell_of_heap hSW]; rfl
 have fW : ∀ k, W.frozen? ⟨S, k, none⟩ = false := fun k => Lib.frozen_of_heap hSW k
 have HKW := Lib.hid hkW
 have HSW := Lib.hid hSW
 have HIW := Lib.hid hIW
 clear hkW hSW hIW
 go_upto_if 44 with (fail)
 go_cut [6] (fun n wx => n = .int .i64 (sk.cnt b.length) ∧ Keeps (fun j => j = S) W wx ∧ wx.heap[S]? = some (.cells #[.slice at0 sk.takes.length tcap, .int .i64 (sk.took b).pos, .int .i64 sk.failAt, .int .i64 sk.lieAt, .int .i64 sk.lie, .int .i64 ((sk.offers : Int) + 1), .int .i64 (max (sk.most : Int) (b.length : Int)), .bool false, gv] 52 (0, 0)))
 case first =>
  by_cases ht : sk.takes = []
  ·have hcn : sk.cnt b.length = b.length := by unfold Snk.cnt; rw [if_pos ht]
   have hps : (sk.took b).pos = sk.pos := by simp [Snk.took, ht]
   have ht0 : sk.takes.length = 0 := by rw [ht]; rfl
   have hc0 : ¬ (0 : Int) < (sk.takes.length : Int) := by omega
   have HCN := Lib.hid hcn
   have HPS := Lib.hid hps
   clear hcn hps ht ht0
   go_wp2
   go_meet
   exact ⟨by rw [HCN.out], Keeps.refl _ _, by rw [HPS.out]; exact HSW.out⟩
  ·have hcn := cnt_val sk b.length ht
   have hps : (sk.took b).pos = sk.pos + 1 := by simp [Snk.took, ht]
   have htl : 0 < sk.takes.length := List.length_pos_iff.2 ht
   have htl2 : (0 : Int) < (sk.takes.length : Int) := by omega
   have hmod : sk.pos % sk.takes.length < sk.takes.length := Nat.mod_lt _ htl
   obtain ⟨bi, off, tc, hf, -, hcell⟩ := HIW.out.cells hmod
   cases hf
   rw [List.getD_eq_getElem?_getD, List.getElem?_eq_getElem hmod, Option.getD_some] at hcn
   have HCN := Lib.hid hcn
   have HPS := Lib.hid hps
   clear hcn hps ht
   go_upto_region 6 with fail
   go_quiet (fail)
   go_wp2
   go_meet
   refine ⟨by rw [HCN.out], ((Keeps.refl (fun j => j = S) W).drewN _).setCell (p := ⟨S, 1, none⟩) (fun _ => rfl) _, ?_⟩
   rw [HPS.out]
   simp [World.setCell, Array.getElem?_modify, HSW.out]
 case rest =>
  obtain ⟨rfl, hkc, hSc⟩ := hcut
  have hcl := sk.cnt_le b.length
  obtain ⟨N, hN⟩ : ∃ N, sk.cnt b.length = N := ⟨_, rfl⟩
  have hgot : (sk.took b).got = sk.got ++ b.take N := by simp [Snk.took, hN]
  rw [hN] at hcl ⊢
  have hkw := HKW.out.tr hkc
  have hgw := HGV.out
  have hgS : ∀ k, gv.ownBlock = some k → ¬ k = S := fun k hk e => by rw [e] at hk; exact own_ne hgw HS.out (by decide) hk
  have hgc := own_kept hgw hkw hgS
  have hbc := own_kept HB.out hkw (fun k hk => by simp [Value.ownBlock] at hk; omega)
  have hcap : b.length ≤ cap := by
   obtain ⟨p', c', he, hh, -⟩ := own_form hbc
   cases he
   exact hh
  have hcap2 : (b.length : Int) ≤ (cap : Int) := by omega
  have hN1 : (N : Int) ≤ (b.length : Int) := by omega
  have hNc : N ≤ cap := by omega
  have c8 : wc.cell? ⟨S, 8, none⟩ = some gv := by rw [Lib.cell_of_heap hSc]; rfl
  have nS8 : ¬ gv.ownBlock = some S := fun h => hgS S h rfl
  have HSC := Lib.hid hSc
  have HGC := Lib.hid hgc
  have HBC := Lib.hid hbc
  have HKC := Lib.hid hkw
  have HGOT := Lib.hid hgot
  have HNN2 := Lib.hid hN
  have HI2 := Lib.hid Tryz.infoByte
  clear hSc hgc hbc hkw hkc hgot hN hgw
  go_upto_region 8 with fail
  refine wp_region_K 11 (fun w' => w'.cell? ⟨S, 8, none⟩ = some gv) (by kernel_rfl) ?_
  have hHeld : wc.drew.cell? ⟨S, 8, none⟩ = some gv := c8
  refine K_is [0, 1, 2, 3, 4, 5, 6, 7] ?_
  iterate 8 (refine K_yD (v := ?_) rfl rfl (by kernel_rfl) (fun _ _ _ h => h) (by rfl) ?_ (by assumption) ?_; rotate_left; (· intro _ hSw; (have hS0 := hSw); first | (go_simp; done) | (go_simp; with_reducible rfl)); try simp only [List.setIfInBounds_toArray, List.set_cons_zero, List.set_cons_succ])
  refine K_no ?_
  refine K_one (i := 8) (by kernel_rfl) rfl (fun K hK => ?_)
  refine step_append_mine _ (by rfl) _ _ 50 (by rfl) 5 _ 1 1 Tryz.underlying50 HI2.out rfl (by decide) gv sk.got.length (Lib.byteCells sk.got) (by rfl) (own_kept HGC.out ((Keeps.refl (fun _ => False) wc).drew) (fun _ _ h => h)) (some ⟨gb, 0, none⟩) N cap (Lib.byteCells (b.take N)) (by rfl) (by simp [Lib.byteCells]; omega) (fun h => (by cases h)) ?_ ?_ (by unfold maxLen; omega) (by omega) ?_
  ·intro ad had j u hu
   cases had
   rw [Addr.add_lit, Nat.zero_add]
   have hj : (Lib.byteCells b)[j]? = some u := by
    have h1 := List.map_take (f := fun b : UInt8 => Value.int .u8 b.toNat) (l := b) (i := N)
    unfold Lib.byteCells at hu ⊢
    rw [h1] at hu
    rw [List.getElem?_take] at hu
    split at hu
    ·exact hu
    ·cases hu
   have := World.ownsRow.cells (v := .slice (some ⟨gb, 0, none⟩) b.length cap) HBC.out (g := gb) rfl j u hj
   rw [Addr.add_lit, Nat.zero_add] at this
   exact this
  ·intro u hu
   simp only [Lib.byteCells, List.mem_map] at hu
   obtain ⟨x, -, rfl⟩ := hu
   rfl
  intro pp cc w1 hrow hgr hkp
  refine hK.out _ _ (hkp.cell_some hHeld nS8) (fun hHeld2 => ?_)
  clear hK K hHeld
  try simp only [Act.put, List.setIfInBounds_toArray, List.set_cons_zero, List.set_cons_succ]
  have hkp0 : Keeps (fun k => gv.ownBlock = some k) wc w1 := ((Keeps.refl (fun k => gv.ownBlock = some k) wc).drew).tr hkp
  have hS1 := hkp0.heap_some HSC.out nS8
  have fS1 : w1.frozen? ⟨S, 8, none⟩ = false := Lib.frozen_of_heap hS1 8
  have hb1 := own_kept HBC.out hkp0 (fun k hk h => by simp [Value.ownBlock] at hk; rw [← hk] at h; exact hgb.2 h)
  have hn1 : ∀ k, (Value.slice pp (sk.got.length + N) cc).ownBlock = some k → ¬ k = S := fun k hk e => by rw [e] at hk; exact own_ne hrow hS1 (by decide) hk
  have hnb : ∀ k, (Value.slice pp (sk.got.length + N) cc).ownBlock = some k → ¬ k = gb := fun k hk e => by
   rcases hgr k hk with h | h
   ·rw [e] at h; exact hgb.2 h
   ·have := own_lt HBC.out (k := gb) rfl
    have h2 : wc.heap.size ≤ k := h
    omega
  obtain ⟨W2, hW2⟩ : ∃ W2, w1.setCell ⟨S, 8, none⟩ (.slice pp (sk.got.length + N) cc) = W2 := ⟨_, rfl⟩
  have hk2 : Keeps (fun j => j = S) w1 W2 := by rw [← hW2]; exact (Keeps.refl (fun j => j = S) w1).setCell (p := ⟨S, 8, none⟩) (fun _ => rfl) _
  have hS2 : W2.heap[S]? = some (.cells #[.slice at0 sk.takes.length tcap, .int .i64 (sk.took b).pos, .int .i64 sk.failAt, .int .i64 sk.lieAt, .int .i64 sk.lie, .int .i64 ((sk.offers : Int) + 1), .int .i64 (max (sk.most : Int) (b.length : Int)), .bool false, .slice pp (sk.got.length + N) cc] 52 (0, 0)) := by
   rw [← hW2]
   simp [World.setCell, Array.getElem?_modify, hS1]
  have hrow2 := own_kept hrow hk2 hn1
  have hb2 := own_kept hb1 hk2 (fun k hk => by simp [Value.ownBlock] at hk; omega)
  have hkw2 : Keeps (fun j => j = S ∨ gv.ownBlock = some j ∨ j = gb) w W2 := by
   refine ((HKC.out.mono (fun _ _ h => .inl h)).trans ((hkp0.mono (fun _ _ h => .inr (.inl h))).tr (hk2.mono (fun _ _ h => .inl h))) (fun _ _ h => h))
  have hgr2 : Grow w gv (.slice pp (sk.got.length + N) cc) := fun k hk => by
   rcases hgr k hk with h | h
   ·exact .inl h
   ·exact .inr (Nat.le_trans HKC.out.size h)
  have HS2 := Lib.hid hS2
  have HROW2 := Lib.hid hrow2
  have HB2 := Lib.hid hb2
  have HKW2 := Lib.hid hkw2
  have HGR2 := Lib.hid hgr2
  have HNB := Lib.hid hnb
  clear hkp0 hS1 hb1 hn1 hk2 hS2 hrow2 hb2 hkw2 hrow hgr hkp hgr2 hnb
  refine K_is [9, 10] ?_
  iterate 2 (refine K_yD (v := ?_) rfl rfl (by kernel_rfl) (fun _ _ _ h => h) (by rfl) ?_ (by assumption) ?_; rotate_left; (· intro _ hSw; (have hS0 := hSw); first | (go_simp; done) | (go_simp; with_reducible rfl)); try simp only [List.setIfInBounds_toArray, List.set_cons_zero, List.set_cons_succ])
  refine K_no ?_
  refine K_last (by kernel_rfl) rfl (fun K hK => ?_)
  go_simp
  refine hK.out _ _ ?_
  clear hK K hHeld2
  try simp only [Act.put, List.setIfInBounds_toArray, List.set_cons_zero, List.set_cons_succ]
  refine K_done (by kernel_rfl) ?_ _
  clear hW2
  go_wp2
  go_loopw [84] (fun i wr => ∃ (j : Nat) (cur : Array Value), i = .int .i64 j ∧ j ≤ b.length ∧ Keeps (fun k => k = gb) W2 wr ∧ wr.heap[gb]? = some (.cells cur 5 (0, 0)) ∧ b.length ≤ cur.size) (fun i _ => b.length - (intOf i).toNat)
  case atStart =>
   rcases HB2.out.2 with ⟨h0, -⟩ | ⟨g', cap', cur, he, -, hg', -, -, hcs, -⟩
   ·cases h0
   ·cases he
    exact ⟨0, cur, rfl, Nat.zero_le _, Keeps.refl _ _, hg', by omega⟩
  case round =>
   obtain ⟨j, cur, rfl, hj, hkr, hcur, hcs⟩ := hrel
   by_cases hlt : j < b.length
   ·have hcj : wr.cell? ⟨gb, j, none⟩ = some (cur[j]'(by omega)) := by
     rw [Lib.cell_of_heap hcur]
     simp [show j < cur.size by omega]
    have hfj : wr.frozen? ⟨gb, j, none⟩ = false := Lib.frozen_of_heap hcur j
    obtain ⟨cur', hcur', hcs'⟩ := cells_put hcur j (.int .u8 33)
    have hji : (j : Int) < (b.length : Int) := by omega
    have HCUR' := Lib.hid hcur'
    have HKR := Lib.hid hkr
    clear hcur hcur' hkr
    go_wp2
    go_roundw
    case rel => exact ⟨j + 1, cur', by go_num, by omega, HKR.out.setCell (p := ⟨gb, j, none⟩) (fun _ => rfl) _, HCUR'.out, by omega⟩
    case measure => simp [intOf]; omega
   ·obtain rfl : j = b.length := by omega
    have hSr := hkr.heap_some HS2.out (fun h => hgb.1 h.symm)
    have hrr := own_kept HROW2.out hkr HNB.out
    have hkf : Keeps (fun j => j = S ∨ gv.ownBlock = some j ∨ j = gb) w wr := HKW2.out.tr (hkr.mono (fun _ _ h => .inr (.inr h)))
    have q2 : wr.cell? ⟨S, 2, none⟩ = some (.int .i64 sk.failAt) := by rw [Lib.cell_of_heap hSr]; rfl
    have q3 : wr.cell? ⟨S, 3, none⟩ = some (.int .i64 sk.lieAt) := by rw [Lib.cell_of_heap hSr]; rfl
    have q4 : wr.cell? ⟨S, 4, none⟩ = some (.int .i64 sk.lie) := by rw [Lib.cell_of_heap hSr]; rfl
    have q5 : wr.cell? ⟨S, 5, none⟩ = some (.int .i64 ((sk.offers : Int) + 1)) := by rw [Lib.cell_of_heap hSr]; rfl
    have hfin : SnkAt wr S (.slice at0 sk.takes.length tcap) (.slice pp (sk.got.length + N) cc) (sk.took b) := by
     have hlen : (b.take N).length = N := by simp; omega
     refine ⟨?_, ?_⟩
     ·have e1 : (sk.took b).none = false := by
       have : b ≠ [] := List.length_pos_iff.1 hbl
       simp [Snk.took, HNN.out, this]
      have e2 : (((sk.took b).offers : Nat) : Int) = (sk.offers : Int) + 1 := by simp [Snk.took]
      have e3 : (((sk.took b).most : Nat) : Int) = max (sk.most : Int) (b.length : Int) := by simp only [Snk.took]; omega
      rw [e1, e2, e3]
      exact hSr
     ·rw [HGOT.out, List.length_append, hlen, Lib.byteCells_append]
      exact hrr
    have HFIN := Lib.hid hfin
    have HKF := Lib.hid hkf
    clear hSr hrr hkf hkr hcur hcs hlt hfin
    by_cases hlie : (sk.offers : Int) + 1 = sk.lieAt
    ·have hsays : sk.says b.length = sk.lie := by unfold Snk.says; rw [if_pos (by push_cast; exact hlie)]
     have hfails : sk.fails = false := by unfold Snk.fails; simp [hlie]
     have h99 : ((sk.offers : Int) + 1 == sk.lieAt) = true := by simpa using hlie
     have HSAYS := Lib.hid hsays
     have HFAILS := Lib.hid hfails
     clear hsays hfails hlie
     go_upto_region 14 with fail
     go_quiet (fail)
     go_wp2
     go_ret2
     exact ⟨.nilIface, _, by rw [HSAYS.out]; rfl, HFIN.out.fresh ((Keeps.refl _ _).drewN _), HKF.out.drewN _, HGR2.out, by rw [HFAILS.out]; rfl⟩
    ·have h99 : ((sk.offers : Int) + 1 == sk.lieAt) = false := by simpa using hlie
     have hsays : sk.says b.length = (N : Int) := by unfold Snk.says; rw [if_neg (by push_cast; exact hlie), HNN2.out]
     have HSAYS := Lib.hid hsays
     clear hsays
     by_cases hfl : (sk.offers : Int) + 1 = sk.failAt
     ·have hfails : sk.fails = true := by unfold Snk.fails; simp [hlie, hfl]; rw [← hfl]; exact hlie
      have h98 : ((sk.offers : Int) + 1 == sk.failAt) = true := by simpa using hfl
      have HFAILS := Lib.hid hfails
      clear hfails hlie hfl
      go_upto_region 14 with fail
      go_quiet (fail)
      go_upto_region 16 with fail
      go_quiet (fail)
      go_upto_region 17 with fail
      refine name_world fun X hX => ?_
      have hFX : Fresh wr X := by rw [hX]; exact ((Keeps.refl _ wr).drewN _).drewN _
      have x5 : X.cell? ⟨S, 5, none⟩ = some (.int .i64 ((sk.offers : Int) + 1)) := hFX.cell_some q5 (fun h => h)
      have HFX := Lib.hid hFX
      clear hX hFX q2 q3 q4 q5
      refine wp_region_K 9 (fun w' => w'.cell? ⟨S, 5, none⟩ = some (.int .i64 ((sk.offers : Int) + 1))) (by kernel_rfl) ?_
      have hHeld : X.drew.cell? ⟨S, 5, none⟩ = some (.int .i64 ((sk.offers : Int) + 1)) := x5
      refine K_is [0, 1, 2, 3, 4, 5, 8] ?_
      iterate 7 (refine K_yD (v := ?_) rfl rfl (by kernel_rfl) (fun _ _ _ h => h) (by rfl) ?_ (by assumption) ?_; rotate_left; (· intro _ hSw; (have hS0 := hSw); first | (go_simp; done) | (go_simp; with_reducible rfl)); try simp only [List.setIfInBounds_toArray, List.set_cons_zero, List.set_cons_succ])
      refine K_no ?_
      refine K_one (i := 6) (by kernel_rfl) rfl (fun K hK => ?_)
      go_simp
      refine hK.out _ _ ?_ (fun hHeld2 => ?_)
      ·exact ((Keeps.refl (fun _ => False) X.drew).alloc _).cell_some hHeld (fun h => h)
      clear hK K hHeld
      try simp only [Act.put, List.setIfInBounds_toArray, List.set_cons_zero, List.set_cons_succ]
      refine K_is [7] ?_
      iterate 1 (refine K_yD (v := ?_) rfl rfl (by kernel_rfl) (fun _ _ _ h => h) (by rfl) ?_ (by assumption) ?_; rotate_left; (· intro _ hSw; (have hS0 := hSw); first | (go_simp; done) | (go_simp; with_reducible rfl)); try simp only [List.setIfInBounds_toArray, List.set_cons_zero, List.set_cons_succ])
      refine K_no ?_
      refine K_last (by kernel_rfl) rfl (fun K hK => ?_)
      go_simp
      refine hK.out _ _ ?_
      clear hK K
      try simp only [Act.put, List.setIfInBounds_toArray, List.set_cons_zero, List.set_cons_succ]
      refine K_done (by kernel_rfl) ?_ _
      go_wp2
      go_ret2
      exact ⟨.iface 82 (.pointer (some ⟨X.heap.size, 0, none⟩)), _, by rw [HSAYS.out]; rfl, HFIN.out.fresh (HFX.out.drew.alloc _), HKF.out.tr ((HFX.out.drew.alloc _).mono (fun _ _ h => h.elim)), HGR2.out, by rw [HFAILS.out]; exact ⟨X.heap.size, _, rfl, heap_alloc_new X.drew _⟩⟩
     ·have hfails : sk.fails = false := by unfold Snk.fails; simp [hfl]
      have h98 : ((sk.offers : Int) + 1 == sk.failAt) = false := by simpa using hfl
      have HFAILS := Lib.hid hfails
      clear hfails hlie hfl
      go_upto_region 14 with fail
      go_quiet (fail)
      go_upto_region 16 with fail
      go_quiet (fail)
      go_wp2
      go_ret2
      exact ⟨.nilIface, _, by rw [HSAYS.out]; rfl, HFIN.out.fresh (((Keeps.refl _ _).drewN _).drewN _), (HKF.out.drewN _).drewN _, HGR2.out, by rw [HFAILS.out]; rfl⟩
end Go.Proofs.YtbioecifiogffabGreatDoor
namespace Go.Proofs.YtbioecifiogffabGreatDoor
open Go.RowKit
def toV (S : Nat) (s : Option Snk) : Value := match s with | none => .nilIface | some _ => .iface 49 (.pointer (some ⟨S, 0, none⟩))
def WS (w0 : World) (S C : Nat) (tv : Value) (w : World) (bs : List UInt8) (n : Nat) (s : Option Snk) (o : Nat → Prop) : Prop :=
 ∃ v gv, w.heap[C]? = some (.cells #[toV S s, v, .int .i64 n] 101 (0, 0)) ∧ WaitAt w v bs ∧ (∀ sk, s = some sk → SnkAt w S tv gv sk ∧ sk.none = false ∧ IntsAt w0 tv sk.takes ∧ sk.takes.length ≤ 1048576) ∧
  (∀ b, v.ownBlock = some b → ¬ gv.ownBlock = some b) ∧ (∀ b, o b ↔ (b = C ∨ v.ownBlock = some b ∨ (s ≠ none ∧ (b = S ∨ gv.ownBlock = some b)))) ∧ Fresh w0 w ∧ (∀ b, o b → w0.heap.size ≤ b)
def WErr (aS : Addr) (e : WEnd) (ev : Value) (n : Nat) (w : World) : Prop :=
 match e with
 | .fine => ev = .nilIface
 | .sink => ∃ a, ev = .iface 90 (.pointer (some ⟨a, 0, none⟩)) ∧ w.heap[a]? = some (.cells #[.int .i64 n, .iface 241 (.pointer (some aS))] 91 (0, 0))
 | .write => ∃ a c x, ev = .iface 90 (.pointer (some ⟨a, 0, none⟩)) ∧ w.heap[a]? = some (.cells #[.int .i64 n, .iface 82 (.pointer (some ⟨c, 0, none⟩))] 91 (0, 0)) ∧ w.heap[c]? = some (.cells #[.int .i64 x] 255 (0, 0))
theorem IntsAt.fresh {w w' : World} {v : Value} {l : List Int} (h : IntsAt w v l) (hk : Fresh w w') : IntsAt w' v l := by
 obtain ⟨ao, cap, rfl, h1, h2, h3⟩ := h
 refine ⟨ao, cap, rfl, h1, h2, fun hne => ?_⟩
 obtain ⟨b, off, rfl, hc⟩ := h3 hne
 exact ⟨b, off, rfl, fun j hj => hk.cell_some (hc j hj) (fun h => h)⟩
theorem wfail_any (C n : Nat) (et : TypeId) (ex : Value) (t0 v : Value) (w : World) (h : w.heap[C]? = some (.cells #[t0, v, .int .i64 n] 101 (0, 0))) :
 Calls Tryz.prog 47 #[.pointer (some ⟨C, 0, none⟩), .iface et ex] w fun e w' => e = .returned (.iface 90 (.pointer (some ⟨w.heap.size, 0, none⟩))) ∧ w'.heap[w.heap.size]? = some (.cells #[.int .i64 n, .iface et ex] 91 (0, 0)) ∧ Fresh w w' := by
 have c2 : w.cell? ⟨C, 2, none⟩ = some (.int .i64 n) := by rw [Lib.cell_of_heap h]; rfl
 clear h
 go_enter Tryz.func47, Tryz.ntmps47
 go_wp2
 go_ret
 exact ⟨rfl, heap_alloc_new w _, (Keeps.refl _ w).alloc _⟩
theorem neSink (S : Nat) (w : World) : (binOp .neq 76 (.iface 49 (.pointer (some ⟨S, 0, none⟩))) .nilIface).run Tryz.prog w = .ok (.bool true) w := by kernel_rfl
theorem neSink0 (w : World) : (binOp .neq 76 .nilIface .nilIface).run Tryz.prog w = .ok (.bool false) w := by kernel_rfl
theorem neErrO (c : Nat) (w : World) : (binOp .neq 54 (.iface 82 (.pointer (some ⟨c, 0, none⟩))) .nilIface).run Tryz.prog w = .ok (.bool true) w := by kernel_rfl
theorem neErrW (c : Nat) (w : World) : (binOp .neq 54 (.iface 90 (.pointer (some ⟨c, 0, none⟩))) .nilIface).run Tryz.prog w = .ok (.bool true) w := by kernel_rfl
theorem neErr0 (w : World) : (binOp .neq 54 .nilIface .nilIface).run Tryz.prog w = .ok (.bool false) w := by kernel_rfl
theorem Tryz.methodTake (p : Addr) (w : World) : (Go.method 372 49 (.pointer (some p)) "Take").run Tryz.prog w = .ok (171, .pointer (some p)) w := by kernel_rfl
theorem neqS (S : Nat) (s : Option Snk) (w : World) : (binOp .neq 76 (toV S s) .nilIface).run Tryz.prog w = .ok (.bool s.isSome) w := by
 cases s with
 | none => exact neSink0 w
 | some sk => exact neSink S w
theorem neqSG (S n : Nat) (s : Option Snk) (w : World) : (eqGuard .neq 76 (.tmp n) (.const .nilIface) (toV S s) .nilIface).run Tryz.prog w = .ok () w := by
 cases s with
 | none => kernel_rfl
 | some sk =>
  have : ∀ X : Nat, (eqGuard .neq 76 (.tmp n) (.const .nilIface) (.iface 49 (.pointer (some ⟨X, 0, none⟩))) .nilIface).run Tryz.prog w = .ok () w := fun X => by kernel_rfl
  exact this S
def TakeStep (b : List UInt8) (s : Option Snk) (z : Int) (ev : Value) (s' : Option Snk) (w' : World) : Prop :=
 (s = none ∧ z = b.length ∧ ev = .nilIface ∧ s' = none) ∨ ∃ sk, s = some sk ∧ z = sk.says b.length ∧ s' = some (sk.took b) ∧ TakeErr sk.fails ev w'
theorem offer_of {bs : List UInt8} {n : Nat} {s s' : Option Snk} {z : Int} {ev : Value} {w : World} (h : TakeStep (bs.take 16) s z ev s' w) :
 (ev ≠ .nilIface ∧ offer bs n s = (.write, bs, n, s') ∧ ∃ c x, ev = .iface 82 (.pointer (some ⟨c, 0, none⟩)) ∧ w.heap[c]? = some (.cells #[.int .i64 x] 255 (0, 0))) ∨
 (ev = .nilIface ∧ (z < 1 ∨ ((min bs.length 16 : Nat) : Int) < z) ∧ (s ≠ none) ∧ offer bs n s = (.sink, bs, n, s')) ∨
 (ev = .nilIface ∧ (s = none ∨ ¬ (z < 1 ∨ ((min bs.length 16 : Nat) : Int) < z)) ∧ 0 ≤ z ∧ z ≤ (min bs.length 16 : Nat) ∧ offer bs n s = (.fine, bs.drop z.toNat, n + z.toNat, s')) := by
 have hl : (bs.take 16).length = min bs.length 16 := by rw [List.length_take, Nat.min_comm]
 rcases h with ⟨rfl, hz, rfl, rfl⟩ | ⟨sk, rfl, hz, rfl, he⟩
 ·rw [hl] at hz
  refine .inr (.inr ⟨rfl, .inl rfl, by omega, by omega, ?_⟩)
  rw [hz]
  rfl
 ·rw [hl] at hz
  unfold TakeErr at he
  by_cases hf : sk.fails = true
  ·rw [if_pos hf] at he
   obtain ⟨c, x, rfl, hx⟩ := he
   refine .inl ⟨(by intro e; cases e), by simp [offer, hf], c, x, rfl, hx⟩
  ·rw [if_neg hf] at he
   subst he
   by_cases h2 : z < 1 ∨ ((min bs.length 16 : Nat) : Int) < z
   ·refine .inr (.inl ⟨rfl, h2, by simp, ?_⟩)
    rw [hz] at h2
    simp only [offer]
    rw [if_neg hf, if_pos h2]
   ·refine .inr (.inr ⟨rfl, .inr h2, by omega, by omega, ?_⟩)
    rw [hz] at h2 ⊢
    simp only [offer]
    rw [if_neg hf, if_neg h2]
def SnkB (B : Nat) (s : Option Snk) : Prop := ∀ sk, s = some sk → sk.offers ≤ B ∧ sk.pos ≤ sk.offers ∧ sk.got.length ≤ 16 * sk.offers ∧ sk.most ≤ 16
theorem ws_end {w0 w w' : World} {S C : Nat} {tv v gv v' gv' : Value} {bs' : List UInt8} {n' : Nat} {s s' : Option Snk} {o : Nat → Prop} (hC' : w'.heap[C]? = some (.cells #[toV S s', v', .int .i64 n'] 101 (0, 0))) (hw' : WaitAt w' v' bs')
 (hsk' : ∀ sk, s' = some sk → SnkAt w' S tv gv' sk ∧ sk.none = false ∧ IntsAt w0 tv sk.takes ∧ sk.takes.length ≤ 1048576) (hvg' : ∀ b, v'.ownBlock = some b → ¬ gv'.ownBlock = some b) (hF0 : Fresh w0 w) (how : ∀ b, o b → w0.heap.size ≤ b)
 (ho : ∀ b, o b ↔ (b = C ∨ v.ownBlock = some b ∨ (s ≠ none ∧ (b = S ∨ gv.ownBlock = some b)))) (hk : Keeps o w w') (hs : s' = none ↔ s = none) (hgv : Grow w v v') (hgg : Grow w gv gv') : ∃ o', WS w0 S C tv w' bs' n' s' o' ∧ Mv o o' w w' := by
 have hnew : ∀ b, (b = C ∨ v'.ownBlock = some b ∨ (s' ≠ none ∧ (b = S ∨ gv'.ownBlock = some b))) → o b ∨ w.heap.size ≤ b := by
  intro b hb
  rcases hb with h | h | ⟨h0, h | h⟩
  ·exact .inl ((ho b).2 (.inl h))
  ·rcases hgv b h with h | h
   ·exact .inl ((ho b).2 (.inr (.inl h)))
   ·exact .inr h
  ·exact .inl ((ho b).2 (.inr (.inr ⟨fun e => h0 (hs.2 e), .inl h⟩)))
  ·rcases hgg b h with h | h
   ·exact .inl ((ho b).2 (.inr (.inr ⟨fun e => h0 (hs.2 e), .inr h⟩)))
   ·exact .inr h
 refine ⟨fun b => b = C ∨ v'.ownBlock = some b ∨ (s' ≠ none ∧ (b = S ∨ gv'.ownBlock = some b)), ⟨v', gv', hC', hw', hsk', hvg', fun b => Iff.rfl, hF0.trans hk (fun j h1 h2 => by have := how j h2; omega), fun b hb => ?_⟩, hk, hnew⟩
 rcases hnew b hb with h | h
 ·exact how b h
 ·exact Nat.le_trans hF0.size h
def OfferOK (aS : Addr) (w0 : World) (S C : Nat) (tv : Value) (o : Nat → Prop) (w : World) (r : WEnd × List UInt8 × Nat × Option Snk) (e : Ending) (w' : World) : Prop :=
 ∃ ev o', e = .returned ev ∧ WErr aS r.1 ev r.2.2.1 w' ∧ WS w0 S C tv w' r.2.1 r.2.2.1 r.2.2.2 o' ∧ Mv o o' w w'
theorem offer_any (aS : Addr) (w0 : World) (S C : Nat) (tv : Value) (bs : List UInt8) (n : Nat) (s : Option Snk) (o : Nat → Prop) (w : World) (h : WS w0 S C tv w bs n s o) (hES : w0.cell? ⟨0, 0, none⟩ = some (.iface 241 (.pointer (some aS))))
 (hne : bs ≠ []) (hbl : bs.length ≤ 1073741824) (hn : n ≤ 1073741824) (hB : SnkB 1073741824 s) :
 Calls Tryz.prog 30 #[.pointer (some ⟨C, 0, none⟩)] w (OfferOK aS w0 S C tv o w (offer bs n s)) := by
 obtain ⟨v, gv, hC, hwt, hsk, hvg, ho, hF0, how⟩ := h
 have hl : 0 < bs.length := List.length_pos_iff.2 hne
 obtain ⟨g, off, cap, rfl, hcap⟩ : ∃ g off cap, v = .slice (some ⟨g, off, none⟩) bs.length cap ∧ bs.length ≤ cap := by
  rcases hwt with ⟨-, h0⟩ | ⟨g, off, cap, cur, rfl, -, h1, -⟩
  ·exact absurd h0 hne
  ·exact ⟨g, off, cap, rfl, h1⟩
 have c0 : w.cell? ⟨C, 0, none⟩ = some (toV S s) := by rw [Lib.cell_of_heap hC]; rfl
 have c1 : w.cell? ⟨C, 1, none⟩ = some (.slice (some ⟨g, off, none⟩) bs.length cap) := by rw [Lib.cell_of_heap hC]; rfl
 obtain ⟨m, hm⟩ : ∃ m, min bs.length 16 = m := ⟨_, rfl⟩
 have hm1 : 1 ≤ m := by omega
 have hm2 : m ≤ bs.length := by omega
 have hm16 : m ≤ 16 := by omega
 have hmi : min (bs.length : Int) 16 = (m : Int) := by omega
 have hmc : m ≤ cap := by omega
 have hmc2 : (m : Int) ≤ (cap : Int) := by omega
 have HC := Lib.hid hC
 have HWT := Lib.hid hwt
 have HSK := Lib.hid hsk
 have HO := Lib.hid ho
 have HF0 := Lib.hid hF0
 have HM := Lib.hid hm
 have HI := Lib.hid Tryz.infoByte
 clear hC hwt hsk ho hF0 hm hne
 go_enter Tryz.func30, Tryz.ntmps30
 go_upto_region 1 with fail
 refine wp_region_K 12 (fun w' => w'.cell? ⟨C, 1, none⟩ = some (.slice (some ⟨g, off, none⟩) bs.length cap)) (by kernel_rfl) ?_
 have hHeld : w.drew.cell? ⟨C, 1, none⟩ = some (.slice (some ⟨g, off, none⟩) bs.length cap) := c1
 refine K_is [0, 1, 2, 3, 4, 5, 6, 7, 8, 9, 10] ?_
 iterate 11 (refine K_yD (v := ?_) rfl rfl (by kernel_rfl) (fun _ _ _ h => h) (by rfl) ?_ (by assumption) ?_; rotate_left; (· intro _ hSw; (have hS0 := hSw); first | (go_simp; done) | (go_simp; with_reducible rfl)); try simp only [List.setIfInBounds_toArray, List.set_cons_zero, List.set_cons_succ])
 refine K_no ?_
 refine K_one (i := 11) (by kernel_rfl) rfl (fun K hK => ?_)
 refine step_append_mine _ (by rfl) _ _ 50 (by rfl) 5 _ 1 1 Tryz.underlying50 HI.out rfl (by decide) (.slice none 0 0) 0 [] (by rfl) (World.ownsRow_nil _ _ _ _) (some ⟨g, off, none⟩) m cap (Lib.byteCells (bs.take m)) (by rfl) (by simp [Lib.byteCells]; omega) (fun h => (by cases h)) ?_ ?_ (by unfold maxLen; omega) (by omega) ?_
 ·intro ad had j u hu
  have hj : (Lib.byteCells bs)[j]? = some u := by
   unfold Lib.byteCells at hu ⊢
   rw [List.map_take, List.getElem?_take] at hu
   split at hu
   ·exact hu
   ·cases hu
  exact HWT.out.cells ad had j u hj
 ·intro u hu
  simp only [Lib.byteCells, List.mem_map] at hu
  obtain ⟨x, -, rfl⟩ := hu
  rfl
 intro pp cc w1 hrow hgr hkp
 refine hK.out _ _ (hkp.cell_some hHeld (by simp [Value.ownBlock])) (fun hHeld2 => ?_)
 clear hK K hHeld
 try simp only [Act.put, List.setIfInBounds_toArray, List.set_cons_zero, List.set_cons_succ]
 rw [Nat.zero_add, List.nil_append] at hrow
 have hk1 : Fresh w w1 := ((Keeps.refl (fun _ => False) w).drew).tr (hkp.mono (fun _ _ h => by cases h))
 obtain ⟨gb, rfl, hgb1⟩ : ∃ gb, pp = some ⟨gb, 0, none⟩ ∧ w.heap.size ≤ gb := by
  obtain ⟨p', c', he, -, hn', hg'⟩ := own_form hrow
  cases he
  cases pp with
  | none => have := (hn' rfl).1; omega
  | some ad =>
   obtain ⟨gb, rfl, -⟩ := hg' ad rfl
   refine ⟨gb, rfl, ?_⟩
   rcases hgr gb rfl with h | h
   ·cases h
   ·exact h
 have htk : bs.take m = bs.take 16 := by
  rw [← HM.out]
  by_cases h16 : bs.length ≤ 16
  ·rw [Nat.min_eq_left h16, List.take_of_length_le (Nat.le_refl _), List.take_of_length_le h16]
  ·rw [Nat.min_eq_right (by omega)]
 have htl : (bs.take 16).length = m := by rw [← htk, List.length_take]; omega
 rw [htk] at hrow
 have HROW := Lib.hid hrow
 have HK1 := Lib.hid hk1
 have HTL := Lib.hid htl
 clear hrow hgr hkp hk1 htk htl
 refine K_last (by kernel_rfl) rfl (fun K hK => ?_)
 go_simp
 refine hK.out _ _ ?_
 clear hK K hHeld2
 try simp only [Act.put, List.setIfInBounds_toArray, List.set_cons_zero, List.set_cons_succ]
 refine K_done (by kernel_rfl) ?_ _
 have hC1 := HK1.out.heap_some HC.out (fun h => h)
 have d0 : w1.cell? ⟨C, 0, none⟩ = some (toV S s) := by rw [Lib.cell_of_heap hC1]; rfl
 have HC1 := Lib.hid hC1
 clear hC1 c0 c1
 have e0 := neqS S s
 have e1 := fun n => neqSG S n s
 go_upto_if 24 with (fail)
 clear e0 e1
 go_cut [4, 5] (fun nv ev wx => ∃ (z : Int) (s' : Option Snk) (gv' : Value), nv = .int .i64 z ∧ TakeStep (bs.take 16) s z ev s' wx ∧ wx.heap[C]? = some (.cells #[toV S s', .slice (some ⟨g, off, none⟩) bs.length cap, .int .i64 n] 101 (0, 0)) ∧ WaitAt wx (.slice (some ⟨g, off, none⟩) bs.length cap) bs ∧
   (∀ sk, s' = some sk → SnkAt wx S tv gv' sk ∧ sk.none = false ∧ IntsAt w0 tv sk.takes ∧ sk.takes.length ≤ 1048576) ∧ (∀ b, (Value.slice (some ⟨g, off, none⟩) bs.length cap).ownBlock = some b → ¬ gv'.ownBlock = some b) ∧ Keeps (fun j => s ≠ none ∧ (j = S ∨ gv.ownBlock = some j)) w wx ∧ Grow w gv gv' ∧ (s' = none ↔ s = none))
 case first =>
  cases s with
  | none =>
   simp only [toV, Option.isSome] at d0 ⊢
   go_wp2
   go_meet
   refine ⟨m, none, gv, rfl, .inl ⟨rfl, by rw [HTL.out], rfl, rfl⟩, HC1.out, HWT.out.fresh HK1.out, (fun _ h => by cases h), hvg, HK1.out.mono (fun _ _ h => h.elim), Grow.refl _ _, by simp⟩
  | some sk =>
   simp only [toV, Option.isSome] at d0 ⊢
   obtain ⟨hs1, hs2, hs3, hs4⟩ := HSK.out sk rfl
   obtain ⟨b1, b2, b3, b4⟩ := hB sk rfl
   have hSo : o S := (HO.out S).2 (.inr (.inr ⟨by simp, .inl rfl⟩))
   have hSl : S < w.heap.size := (Array.getElem?_eq_some_iff.1 hs1.1).1
   have hgvl : ∀ b, gv.ownBlock = some b → b < w.heap.size := fun b hb => own_lt hs1.2 hb
   have htk := Take_any S gb tv gv sk (bs.take 16) cc w1 (hs1.fresh HK1.out) (fun W hW => hs3.fresh ((HF0.out.tr HK1.out).trans hW (fun j h1 h2 => by have := how S hSo; omega))) hs4 (by rw [HTL.out]; exact HROW.out) (by intro e; have := HTL.out; rw [e] at this; simp at this; omega) (by rw [HTL.out]; exact hm16) (by omega) (by omega) (by omega) (by omega) hs2 ⟨by omega, fun h => by have := hgvl gb h; omega⟩
   rw [HTL.out] at htk
   unfold TakeOK at htk
   have HTK := Lib.hid htk
   have mT := Tryz.methodTake ⟨S, 0, none⟩
   clear htk
   go_wp2_with (go_at_call 171; refine HTK.out.mono ?_)
   rintro e w2 ⟨ev, gv', rfl, hs5, hk5, hg5, he5⟩
   have hCl : C < w.heap.size := (Array.getElem?_eq_some_iff.1 HC.out).1
   have hgl : g < w.heap.size := HWT.out.lt (b := g) rfl
   have hCS : C ≠ S := by rintro rfl; have := HC.out.symm.trans hs1.1; cases this
   have hgC : ¬ gv.ownBlock = some C := own_ne hs1.2 HC.out (by decide)
   have hgS : g ≠ S := by rintro rfl; exact HWT.out.ne hs1.1 (by decide) rfl
   have hgg : ¬ gv.ownBlock = some g := hvg g rfl
   have hC2 := hk5.heap_some HC1.out (fun h => by
     rcases h with h | h | h
     ·exact hCS h
     ·exact hgC h
     ·omega)
   have hw2 := (HWT.out.fresh HK1.out).kept hk5 (fun b hb h => by
     have hb2 : g = b := by simpa [Value.ownBlock] using hb
     subst hb2
     rcases h with h | h | h
     ·exact hgS h
     ·exact hgg h
     ·omega)
   have hk6 : Keeps (fun j => (some sk : Option Snk) ≠ none ∧ (j = S ∨ gv.ownBlock = some j)) w w2 := (HK1.out.mono (fun _ _ h => h.elim)).trans hk5 (fun j h1 h2 => by
     rcases h2 with h | h | h
     ·exact ⟨by simp, .inl h⟩
     ·exact ⟨by simp, .inr h⟩
     ·omega)
   have hg6 : Grow w gv gv' := fun b hb => by
    rcases hg5 b hb with h | h
    ·exact .inl h
    ·exact .inr (Nat.le_trans HK1.out.size h)
   have hne6 : sk.took (bs.take 16) = sk.took (bs.take 16) := rfl
   have hnn6 : (sk.took (bs.take 16)).none = false := by
    have h0 : bs.take 16 ≠ [] := by intro e; have := HTL.out; rw [e] at this; simp at this; omega
    simp [Snk.took, hs2, h0]
   have HS5 := Lib.hid hs5
   have HE5 := Lib.hid he5
   have HC2 := Lib.hid hC2
   have HW2 := Lib.hid hw2
   have HK6 := Lib.hid hk6
   have HG6 := Lib.hid hg6
   have HNN6 := Lib.hid hnn6
   have HS3 := Lib.hid hs3
   clear hk5 hg5 hs5 he5 hC2 hw2 hk6 hg6 hnn6 hne6 hs1 hs2 hs3
   go_wp2
   go_meet
   refine ⟨_, some (sk.took (bs.take 16)), gv', rfl, .inr ⟨sk, rfl, by simp, rfl, HE5.out⟩, HC2.out, HW2.out, ?_, ?_, HK6.out, HG6.out, by simp⟩
   ·intro sk2 h2
    cases h2
    exact ⟨HS5.out, HNN6.out, HS3.out, hs4⟩
   ·intro b hb h
    have hb2 : g = b := by simpa [Value.ownBlock] using hb
    subst hb2
    rcases HG6.out g h with h | h
    ·exact hgg h
    ·omega
 case rest =>
  obtain ⟨z, s', gv', rfl, hts, hC2, hw2, hsk2, hvg2, hk2, hg2, hss⟩ := hcut
  have hko : Keeps o w wc := hk2.mono (fun j _ h => (HO.out j).2 (.inr (.inr h)))
  have hF2 : Fresh w0 wc := HF0.out.trans hko (fun j h1 h2 => by have := how j h2; omega)
  have cES : wc.cell? ⟨0, 0, none⟩ = some (.iface 241 (.pointer (some aS))) := hF2.cell_some hES (fun h => h)
  have hmz : ((bs.take 16).length : Int) = (m : Int) := by rw [HTL.out]
  have HC2 := Lib.hid hC2
  have HW2 := Lib.hid hw2
  have HSK2 := Lib.hid hsk2
  have HVG2 := Lib.hid hvg2
  have HKO := Lib.hid hko
  have HG2 := Lib.hid hg2
  clear hC2 hw2 hsk2 hvg2 hk2 hko hg2 hF2 d0
  rcases offer_of (n := n) hts with ⟨-, hof, c, x, rfl, hcx⟩ | ⟨rfl, hz, -, hof⟩ | ⟨rfl, hz, hz0, hzm, hof⟩
  ·have hwf := wfail_any C n 82 (.pointer (some ⟨c, 0, none⟩)) _ _ wc HC2.out
   have n1 := neErrO c
   have HWF := Lib.hid hwf
   have HOF := Lib.hid hof
   have HCX := Lib.hid hcx
   clear hwf hof hcx hts hmz
   go_wp2_with fail
   refine HWF.out.mono ?_
   rintro e w3 ⟨rfl, h3, hk3⟩
   have H3 := Lib.hid h3
   have HK3 := Lib.hid hk3
   clear h3 hk3
   go_wp2
   go_ret
   obtain ⟨o', hws, hmv⟩ := ws_end (HK3.out.heap_some HC2.out (fun h => h)) (HW2.out.fresh HK3.out) (fun sk h => ⟨(HSK2.out sk h).1.fresh HK3.out, (HSK2.out sk h).2⟩) HVG2.out HF0.out how HO.out (HKO.out.tr (HK3.out.mono (fun _ _ h => h.elim))) hss (Grow.refl _ _) HG2.out
   exact ⟨_, o', rfl, by rw [HOF.out]; exact ⟨_, c, x, rfl, H3.out, HK3.out.heap_some HCX.out (fun h => h)⟩, by rw [HOF.out]; exact hws, hmv⟩
  ·have hwf := wfail_any C n 241 (.pointer (some aS)) _ _ wc HC2.out
   have n1 := neErr0
   rw [HM.out] at hz
   have HWF := Lib.hid hwf
   have HOF := Lib.hid hof
   clear hwf hof hts hmz
   by_cases hz1 : z < 1
   ·clear hz
    go_wp2_with fail
    refine HWF.out.mono ?_
    rintro e w3 ⟨rfl, h3, hk3⟩
    have H3 := Lib.hid h3
    have HK3 := Lib.hid hk3
    clear h3 hk3
    go_wp2
    go_ret
    obtain ⟨o', hws, hmv⟩ := ws_end (HK3.out.heap_some HC2.out (fun h => h)) (HW2.out.fresh HK3.out) (fun sk h => ⟨(HSK2.out sk h).1.fresh HK3.out, (HSK2.out sk h).2⟩) HVG2.out HF0.out how HO.out (HKO.out.tr (HK3.out.mono (fun _ _ h => h.elim))) hss (Grow.refl _ _) HG2.out
    exact ⟨_, o', rfl, by rw [HOF.out]; exact ⟨_, rfl, H3.out⟩, by rw [HOF.out]; exact hws, hmv⟩
   ·have hz2 : (m : Int) < z := hz.resolve_left hz1
    clear hz
    go_wp2_with fail
    refine HWF.out.mono ?_
    rintro e w3 ⟨rfl, h3, hk3⟩
    have H3 := Lib.hid h3
    have HK3 := Lib.hid hk3
    clear h3 hk3
    go_wp2
    go_ret
    obtain ⟨o', hws, hmv⟩ := ws_end (HK3.out.heap_some HC2.out (fun h => h)) (HW2.out.fresh HK3.out) (fun sk h => ⟨(HSK2.out sk h).1.fresh HK3.out, (HSK2.out sk h).2⟩) HVG2.out HF0.out how HO.out (HKO.out.tr (HK3.out.mono (fun _ _ h => h.elim))) hss (Grow.refl _ _) HG2.out
    exact ⟨_, o', rfl, by rw [HOF.out]; exact ⟨_, rfl, H3.out⟩, by rw [HOF.out]; exact hws, hmv⟩
  ·rw [HM.out] at hz hzm
   have hz9 : 1 ≤ z := by
    rcases hts with ⟨-, hzz, -, -⟩ | ⟨sk, hs, -⟩
    ·omega
    ·rcases hz with h | h
     ·rw [h] at hs; cases hs
     ·omega
   obtain ⟨k, rfl⟩ : ∃ k : Nat, z = (k : Int) := ⟨z.toNat, by omega⟩
   rw [Int.toNat_natCast] at hof
   have n1 := neErr0
   have hk1 : ¬ (k : Int) < 1 := by omega
   have hk2 : ¬ (m : Int) < (k : Int) := by omega
   have hkm : (k : Int) ≤ 16 := by omega
   have hkl : (k : Int) ≤ (bs.length : Int) := by omega
   have e2 : wc.cell? ⟨C, 2, none⟩ = some (.int .i64 n) := by rw [Lib.cell_of_heap HC2.out]; rfl
   have e1 : wc.cell? ⟨C, 1, none⟩ = some (.slice (some ⟨g, off, none⟩) bs.length cap) := by rw [Lib.cell_of_heap HC2.out]; rfl
   have fC : ∀ j, wc.frozen? ⟨C, j, none⟩ = false := fun j => Lib.frozen_of_heap HC2.out j
   have hgC : g ≠ C := by rintro rfl; exact HW2.out.ne HC2.out (by decide) rfl
   have hSC : ∀ sk, s' = some sk → S ≠ C := fun sk h e => by
    subst e
    have := HC2.out.symm.trans (HSK2.out sk h).1.1
    cases this
   have hgvC : ∀ sk, s' = some sk → ¬ gv'.ownBlock = some C := fun sk h => own_ne (HSK2.out sk h).1.2 HC2.out (by decide)
   have HOF := Lib.hid hof
   have HgvC := Lib.hid hgvC
   clear hof hts hmz hz hz0 hzm hz9 cES
   by_cases hcap2 : k = cap
   ·subst hcap2
    have hw3 := (HW2.out.cut k (by omega)).kept (Keeps.refl (fun _ => False) wc) (fun _ _ h => h)
    rw [if_pos rfl, show bs.length - k = 0 by omega, Nat.sub_self] at hw3
    have hfin : ∀ X : Value, ((wc.setCell ⟨C, 2, none⟩ (.int .i64 ((n : Int) + (k : Int)))).setCell ⟨C, 1, none⟩ X).heap[C]? = some (.cells #[toV S s', X, .int .i64 ((n + k : Nat) : Int)] 101 (0, 0)) := fun X => by simp [World.setCell, Array.getElem?_modify, HC2.out]
    have hkC : ∀ X : Value, Keeps (fun j => j = C) wc ((wc.setCell ⟨C, 2, none⟩ (.int .i64 ((n : Int) + (k : Int)))).setCell ⟨C, 1, none⟩ X) := fun X => ((Keeps.refl (fun j => j = C) wc).setCell (p := ⟨C, 2, none⟩) (fun _ => rfl) _).setCell (p := ⟨C, 1, none⟩) (fun _ => rfl) _
    have HW3 := Lib.hid hw3
    have HFIN := Lib.hid hfin
    have HKC := Lib.hid hkC
    clear hw3 hfin hkC
    go_wp2
    go_ret
    obtain ⟨o', hws, hmv⟩ := ws_end (HFIN.out _) (HW3.out.kept (HKC.out _) (fun b hb h => by
        have hb2 : g = b := by simpa [Value.ownBlock] using hb
        exact hgC (hb2.trans h)))
     (fun sk h => ⟨(HSK2.out sk h).1.kept (HKC.out _) (fun e => hSC sk h e) (fun b hb e => hgvC sk h (e ▸ hb)), (HSK2.out sk h).2⟩)
     (fun b hb => HVG2.out b (by simpa [Value.ownBlock] using hb)) HF0.out how HO.out (HKO.out.tr ((HKC.out _).mono (fun j _ h => (HO.out j).2 (.inl h)))) hss (fun b hb => .inl (by simpa [Value.ownBlock] using hb)) HG2.out
    exact ⟨_, o', rfl, by rw [HOF.out]; rfl, by rw [HOF.out]; exact hws, hmv⟩
   ·have hdd : True := trivial
    have hw3 := (HW2.out.cut k (by omega)).kept (Keeps.refl (fun _ => False) wc) (fun _ _ h => h)
    rw [if_neg (Ne.symm hcap2)] at hw3
    have hfin : ∀ X : Value, ((wc.setCell ⟨C, 2, none⟩ (.int .i64 ((n : Int) + (k : Int)))).setCell ⟨C, 1, none⟩ X).heap[C]? = some (.cells #[toV S s', X, .int .i64 ((n + k : Nat) : Int)] 101 (0, 0)) := fun X => by simp [World.setCell, Array.getElem?_modify, HC2.out]
    have hkC : ∀ X : Value, Keeps (fun j => j = C) wc ((wc.setCell ⟨C, 2, none⟩ (.int .i64 ((n : Int) + (k : Int)))).setCell ⟨C, 1, none⟩ X) := fun X => ((Keeps.refl (fun j => j = C) wc).setCell (p := ⟨C, 2, none⟩) (fun _ => rfl) _).setCell (p := ⟨C, 1, none⟩) (fun _ => rfl) _
    have HW3 := Lib.hid hw3
    have HFIN := Lib.hid hfin
    have HKC := Lib.hid hkC
    clear hw3 hfin hkC
    go_wp2
    go_ret
    obtain ⟨o', hws, hmv⟩ := ws_end (HFIN.out _) (HW3.out.kept (HKC.out _) (fun b hb h => by
        have hb2 : g = b := by simpa [Value.ownBlock] using hb
        exact hgC (hb2.trans h)))
     (fun sk h => ⟨(HSK2.out sk h).1.kept (HKC.out _) (fun e => hSC sk h e) (fun b hb e => hgvC sk h (e ▸ hb)), (HSK2.out sk h).2⟩)
     (fun b hb => HVG2.out b (by simpa [Value.ownBlock] using hb)) HF0.out how HO.out (HKO.out.tr ((HKC.out _).mono (fun j _ h => (HO.out j).2 (.inl h)))) hss (fun b hb => .inl (by simpa [Value.ownBlock] using hb)) HG2.out
    exact ⟨_, o', rfl, by rw [HOF.out]; rfl, by rw [HOF.out]; exact hws, hmv⟩
end Go.Proofs.YtbioecifiogffabGreatDoor
namespace Go.Proofs.YtbioecifiogffabGreatDoor
open Go.RowKit
def SnkP (B : Nat) (b : List UInt8) (s : Option Snk) : Prop := ∀ sk, s = some sk → sk.offers + b.length ≤ B ∧ sk.pos ≤ sk.offers ∧ sk.got.length ≤ 16 * sk.offers ∧ sk.most ≤ 16
theorem snkB_of {B : Nat} {b : List UInt8} {s : Option Snk} (h : SnkP B b s) : SnkB B s := fun sk hs => by obtain ⟨h1, h2, h3, h4⟩ := h sk hs; exact ⟨by omega, h2, h3, h4⟩
theorem took_bounds (sk : Snk) (b : List UInt8) (h2 : sk.pos ≤ sk.offers) (h3 : sk.got.length ≤ 16 * sk.offers) (h4 : sk.most ≤ 16) : (sk.took (b.take 16)).pos ≤ (sk.took (b.take 16)).offers ∧ (sk.took (b.take 16)).got.length ≤ 16 * (sk.took (b.take 16)).offers ∧ (sk.took (b.take 16)).most ≤ 16 := by
 have hc := sk.cnt_le (b.take 16).length
 have hl : (b.take 16).length ≤ 16 := by simp; omega
 refine ⟨?_, ?_, ?_⟩
 ·simp only [Snk.took]; split <;> omega
 ·simp only [Snk.took, List.length_append, List.length_take] at hc ⊢; omega
 ·simp only [Snk.took]; omega
theorem snkP_offer {B n : Nat} {b : List UInt8} {s : Option Snk} (h : SnkP B b s) (hb : b ≠ []) (hf : (offer b n s).1 = .fine) : SnkP B (offer b n s).2.1 (offer b n s).2.2.2 := by
 have hl := (offer_less hb hf).1
 cases s with
 | none => intro sk hs; simp [offer] at hs
 | some sk0 =>
  obtain ⟨h1, h2, h3, h4⟩ := h sk0 rfl
  have ht := took_bounds sk0 b h2 h3 h4
  have e1 : (offer b n (some sk0)).2.2.2 = some (sk0.took (b.take 16)) := by
   unfold offer
   simp only
   split
   ·rfl
   ·split <;> rfl
  intro sk hs
  rw [e1] at hs
  cases hs
  have ho : (sk0.took (b.take 16)).offers = sk0.offers + 1 := rfl
  exact ⟨by omega, ht.1, ht.2.1, ht.2.2⟩
def waitLen (w : World) (C : Nat) : Nat := match w.cell? ⟨C, 1, none⟩ with | some (.slice _ n _) => n | _ => 0
theorem WS.blk {w0 : World} {S C : Nat} {tv : Value} {w : World} {bs : List UInt8} {n : Nat} {s : Option Snk} {o : Nat → Prop} (h : WS w0 S C tv w bs n s o) : ∃ a cap, w.heap[C]? = some (.cells #[toV S s, .slice a bs.length cap, .int .i64 n] 101 (0, 0)) := by
 obtain ⟨v, gv, hC, hw, -⟩ := h
 obtain ⟨a, cap, rfl, -⟩ := hw.form
 exact ⟨a, cap, hC⟩
theorem Flush_any (aS : Addr) (w0 : World) (S C : Nat) (tv : Value) (bs : List UInt8) (n : Nat) (s : Option Snk) (o : Nat → Prop) (w : World) (h : WS w0 S C tv w bs n s o) (hES : w0.cell? ⟨0, 0, none⟩ = some (.iface 241 (.pointer (some aS))))
 (hkb : n + bs.length ≤ 1073741824) (hP : SnkP 1073741824 bs s) :
 Calls Tryz.prog 24 #[.pointer (some ⟨C, 0, none⟩)] w (OfferOK aS w0 S C tv o w (drain 1 bs.length bs n s)) := by
 obtain ⟨R, hR⟩ : ∃ R, drain 1 bs.length bs n s = R := ⟨_, rfl⟩
 rw [hR]
 have HR := Lib.hid hR
 have HWS := Lib.hid h
 have HP := Lib.hid hP
 have HMV := Lib.hid (Mv.refl o w)
 clear hR h hP
 ·go_enter Tryz.func24, Tryz.ntmps24
  go_wp2_with fail
  go_loopw [3] (fun _ wr => ∃ (f : Nat) (b : List UInt8) (k : Nat) (s1 : Option Snk) (o1 : Nat → Prop), WS w0 S C tv wr b k s1 o1 ∧ Mv o o1 w wr ∧ b.length ≤ f ∧ drain 1 f b k s1 = R ∧ SnkP 1073741824 b s1 ∧ k + b.length ≤ 1073741824) (fun _ wr => waitLen wr C)
  case atStart => exact ⟨_, _, _, _, _, HWS.out, HMV.out, Nat.le_refl _, HR.out, HP.out, hkb⟩
  case round =>
   obtain ⟨f, b, k, s1, o1, hws, hmv, hf, hr, hp, hkb⟩ := hrel
   obtain ⟨wo, rfl⟩ : ∃ wo : World, wo = wr := ⟨_, rfl⟩
   obtain ⟨a, cap, hC⟩ := hws.blk
   have c1 : wo.cell? ⟨C, 1, none⟩ = some (.slice a b.length cap) := by rw [Lib.cell_of_heap hC]; rfl
   have hwl : waitLen wo C = b.length := by unfold waitLen; rw [c1]
   by_cases hlt : b.length < 1
   ·have hr2 : R = (.fine, b, k, s1) := by
     rw [← hr]
     cases f with
     | zero => rfl
     | succ f => unfold drain; rw [if_pos hlt]
    have hi : ¬ ((0 : Int) < (b.length : Int)) := by omega
    have HR2 := Lib.hid hr2
    have HWS := Lib.hid hws
    have HMV := Lib.hid hmv
    clear hr hr2 hws hmv hC hwl
    go_wp2
    go_ret
    exact ⟨_, o1, rfl, by rw [HR2.out]; rfl, by rw [HR2.out]; exact HWS.out, HMV.out⟩
   ·have hbn : b ≠ [] := by intro e; rw [e] at hlt; simp at hlt
    obtain ⟨f, rfl⟩ : ∃ f', f = f' + 1 := ⟨f - 1, by have := List.length_pos_iff.2 hbn; omega⟩
    have hi : (0 : Int) < (b.length : Int) := by omega
    have hof := offer_any aS w0 S C tv b k s1 o1 wo hws hES hbn (by omega) (by omega) (snkB_of hp)
    have hnx : ∀ X, offer b k s1 = X → (X.1 = .fine → X.2.1.length < b.length ∧ X.2.2.1 + X.2.1.length = k + b.length ∧ SnkP 1073741824 X.2.1 X.2.2.2 ∧ drain 1 f X.2.1 X.2.2.1 X.2.2.2 = R) ∧ (X.1 ≠ .fine → X = R) := by
     rintro X rfl
     refine ⟨fun hfi => ?_, fun hfi => ?_⟩
     ·obtain ⟨h1, h2⟩ := offer_less hbn hfi
      refine ⟨h1, h2, snkP_offer hp hbn hfi, ?_⟩
      rw [← hr]
      conv => rhs; unfold drain
      rw [if_neg hlt, if_pos hfi]
     ·rw [← hr]
      conv => rhs; unfold drain
      rw [if_neg hlt, if_neg hfi]
    obtain ⟨X, hX⟩ : ∃ X, offer b k s1 = X := ⟨_, rfl⟩
    obtain ⟨hn1, hn2⟩ := hnx X hX
    rw [hX] at hof
    have HOF := Lib.hid hof
    have HMV := Lib.hid hmv
    have HN1 := Lib.hid hn1
    have HN2 := Lib.hid hn2
    clear hr hws hmv hC hof hnx hX hn1 hn2
    go_wp2_with fail
    refine HOF.out.mono ?_
    rintro e w2 ⟨ev, o2, rfl, hev, hws2, hm2⟩
    have HM2 := Lib.hid (HMV.out.trans hm2)
    by_cases hfi : X.1 = .fine
    ·obtain ⟨q1, q2, q3, q4⟩ := HN1.out hfi
     rw [hfi] at hev
     have hev2 : ev = .nilIface := hev
     subst hev2
     obtain ⟨a2, cap2, hC2⟩ := hws2.blk
     have hwl2 : waitLen w2 C = X.2.1.length := by unfold waitLen; rw [Lib.cell_of_heap hC2]; rfl
     have n1 := neErr0
     have HWS2 := Lib.hid hws2
     have Q4 := Lib.hid q4
     have Q3 := Lib.hid q3
     have HWL := Lib.hid hwl
     have HWL2 := Lib.hid hwl2
     clear hev hws2 hm2 hfi hC2 q3 q4 hwl hwl2
     go_wp2
     go_roundw
     case rel => exact ⟨f, _, _, _, o2, HWS2.out, HM2.out, by omega, Q4.out, Q3.out, by omega⟩
     case measure => rw [HWL.out, HWL2.out]; exact q1
    ·have hXR := HN2.out hfi
     subst hXR
     obtain ⟨c, hc⟩ : ∃ c, ev = .iface 90 (.pointer (some ⟨c, 0, none⟩)) := by
      unfold WErr at hev
      split at hev
      ·rename_i h0; exact absurd h0 hfi
      ·obtain ⟨c, rfl, -⟩ := hev; exact ⟨c, rfl⟩
      ·obtain ⟨c, _, _, rfl, -⟩ := hev; exact ⟨c, rfl⟩
     subst hc
     have n1 := neErrW c
     have HEV := Lib.hid hev
     have HWS2 := Lib.hid hws2
     clear hev hws2 hm2 hfi hwl
     go_wp2
     go_ret
     exact ⟨_, o2, rfl, HEV.out, HWS2.out, HM2.out⟩
theorem Put_any (aS : Addr) (w0 : World) (S C : Nat) (tv : Value) (bs : List UInt8) (t : ByteArray) (n : Nat) (s : Option Snk) (o : Nat → Prop) (w : World) (h : WS w0 S C tv w bs n s o) (hES : w0.cell? ⟨0, 0, none⟩ = some (.iface 241 (.pointer (some aS))))
 (hkb : n + (bs ++ t.data.toList).length ≤ 1073741824) (hP : SnkP 1073741824 (bs ++ t.data.toList) s) :
 Calls Tryz.prog 21 #[.pointer (some ⟨C, 0, none⟩), .string t] w (OfferOK aS w0 S C tv o w (drain 16 (bs ++ t.data.toList).length (bs ++ t.data.toList) n s)) := by
 obtain ⟨R, hR⟩ : ∃ R, drain 16 (bs ++ t.data.toList).length (bs ++ t.data.toList) n s = R := ⟨_, rfl⟩
 rw [hR]
 obtain ⟨v, gv, hC, hwt, hsk, hvg, ho, hF0, how⟩ := h
 obtain ⟨a, cap, rfl, hcap⟩ := hwt.form
 have hlen : bs.length + t.size ≤ 1073741824 := by rw [List.length_append] at hkb; simp at hkb; omega
 have c1 : w.cell? ⟨C, 1, none⟩ = some (.slice a bs.length cap) := by rw [Lib.cell_of_heap hC]; rfl
 have f1 : w.frozen? ⟨C, 1, none⟩ = false := Lib.frozen_of_heap hC 1
 have hwC : ¬ (Value.slice a bs.length cap).ownBlock = some C := hwt.ne hC (by decide)
 have HR := Lib.hid hR
 have HC := Lib.hid hC
 have HWT := Lib.hid hwt
 have HSK := Lib.hid hsk
 have HVG := Lib.hid hvg
 have HO := Lib.hid ho
 have HF0 := Lib.hid hF0
 have HP := Lib.hid hP
 have HWC := Lib.hid hwC
 have HI := Lib.hid Tryz.infoByte
 clear hR hC hwt hsk hvg ho hF0 hP hwC
 ·go_enter Tryz.func21, Tryz.ntmps21
  go_wp2_with (at_builtin; refine wpList_append_wait _ rfl _ _ 50 9 rfl Tryz.underlying50 Tryz.underlying9 HI.out HWT.out rfl t rfl (by omega) ?_)
  intro v' w1 hw1 hg1 hk1
  obtain ⟨a', cap', hv', hcap'⟩ := hw1.form
  obtain ⟨N, hN⟩ : ∃ N, (bs ++ t.data.toList).length = N := ⟨_, rfl⟩
  rw [hN] at hv' hcap'
  subst hv'
  clear hN
  have hC1 := hk1.heap_some HC.out HWC.out
  have f11 : w1.frozen? ⟨C, 1, none⟩ = false := Lib.frozen_of_heap hC1 1
  have c11 : w1.cell? ⟨C, 1, none⟩ = some (.slice a bs.length cap) := by rw [Lib.cell_of_heap hC1]; rfl
  obtain ⟨W, hW⟩ : ∃ W, w1.setCell ⟨C, 1, none⟩ (.slice a' N cap') = W := ⟨_, rfl⟩
  have hkC : Keeps (fun j => j = C) w1 W := by rw [← hW]; exact (Keeps.refl (fun j => j = C) w1).setCell (p := ⟨C, 1, none⟩) (fun _ => rfl) _
  have hCW : W.heap[C]? = some (.cells #[toV S s, .slice a' N cap', .int .i64 n] 101 (0, 0)) := by rw [← hW]; simp [World.setCell, Array.getElem?_modify, hC1]
  have hkW : Keeps o w W := (hk1.mono (fun j _ h => (HO.out j).2 (.inr (.inl h)))).tr (hkC.mono (fun j _ h => (HO.out j).2 (.inl h)))
  have hws : ∃ o', WS w0 S C tv W (bs ++ t.data.toList) n s o' ∧ Mv o o' w W := by
   cases s with
   | none => exact ws_end (v := .slice a bs.length cap) (gv := gv) (gv' := .slice none 0 0) hCW (hw1.kept hkC (fun b hb h => hw1.ne hC1 (by decide) (h ▸ hb))) (fun sk h => by cases h) (fun b hb h => by cases h) HF0.out how HO.out hkW Iff.rfl hg1 (fun b hb => by cases hb)
   | some sk0 =>
    refine ws_end (v := .slice a bs.length cap) (gv := gv) (gv' := gv) hCW (hw1.kept hkC (fun b hb h => hw1.ne hC1 (by decide) (h ▸ hb))) (fun sk h => ?_) (fun b hb h => ?_) HF0.out how HO.out hkW Iff.rfl hg1 (Grow.refl _ _)
    ·obtain ⟨q1, q2, q3, q4⟩ := HSK.out sk h
     have hSC : S ≠ C := by
      rintro rfl
      have := HC.out.symm.trans q1.1
      cases this
     have q5 := q1.kept hk1 (fun hh => HWT.out.ne q1.1 (by decide) hh) (fun b hb hh => HVG.out b hh hb)
     exact ⟨q5.kept hkC hSC (fun b hb hh => own_ne q1.2 HC.out (by decide) (hh ▸ hb)), q2, q3, q4⟩
    ·rcases hg1 b hb with h1 | h1
     ·exact HVG.out b h1 h
     ·have := own_lt (HSK.out sk0 rfl).1.2 h
      omega
  obtain ⟨o', hws, hmv⟩ := hws
  have HWS := Lib.hid hws
  have HMV := Lib.hid hmv
  clear hw1 hg1 hk1 hC1 hkC hCW hkW hws hmv
  go_wp2_with fail
  go_loopw [5] (fun _ wr => ∃ (f : Nat) (b : List UInt8) (k : Nat) (s1 : Option Snk) (o1 : Nat → Prop), WS w0 S C tv wr b k s1 o1 ∧ Mv o o1 w wr ∧ b.length ≤ f ∧ drain 16 f b k s1 = R ∧ SnkP 1073741824 b s1 ∧ k + b.length ≤ 1073741824) (fun _ wr => waitLen wr C)
  case atStart => exact ⟨_, _, _, _, _, HWS.out, HMV.out, Nat.le_refl _, HR.out, HP.out, hkb⟩
  case round =>
   obtain ⟨f, b, k, s1, o1, hws, hmv, hf, hr, hp, hkb⟩ := hrel
   obtain ⟨wo, rfl⟩ : ∃ wo : World, wo = wr := ⟨_, rfl⟩
   obtain ⟨a, cap, hC⟩ := hws.blk
   have c1 : wo.cell? ⟨C, 1, none⟩ = some (.slice a b.length cap) := by rw [Lib.cell_of_heap hC]; rfl
   have hwl : waitLen wo C = b.length := by unfold waitLen; rw [c1]
   by_cases hlt : b.length < 16
   ·have hr2 : R = (.fine, b, k, s1) := by
     rw [← hr]
     cases f with
     | zero => rfl
     | succ f => unfold drain; rw [if_pos hlt]
    have hi : ¬ ((16 : Int) ≤ (b.length : Int)) := by omega
    have HR2 := Lib.hid hr2
    have HWS := Lib.hid hws
    have HMV := Lib.hid hmv
    clear hr hr2 hws hmv hC hwl
    go_wp2
    go_ret
    exact ⟨_, o1, rfl, by rw [HR2.out]; rfl, by rw [HR2.out]; exact HWS.out, HMV.out⟩
   ·have hbn : b ≠ [] := by intro e; rw [e] at hlt; simp at hlt
    obtain ⟨f, rfl⟩ : ∃ f', f = f' + 1 := ⟨f - 1, by have := List.length_pos_iff.2 hbn; omega⟩
    have hi : (16 : Int) ≤ (b.length : Int) := by omega
    have hof := offer_any aS w0 S C tv b k s1 o1 wo hws hES hbn (by omega) (by omega) (snkB_of hp)
    have hnx : ∀ X, offer b k s1 = X → (X.1 = .fine → X.2.1.length < b.length ∧ X.2.2.1 + X.2.1.length = k + b.length ∧ SnkP 1073741824 X.2.1 X.2.2.2 ∧ drain 16 f X.2.1 X.2.2.1 X.2.2.2 = R) ∧ (X.1 ≠ .fine → X = R) := by
     rintro X rfl
     refine ⟨fun hfi => ?_, fun hfi => ?_⟩
     ·obtain ⟨h1, h2⟩ := offer_less hbn hfi
      refine ⟨h1, h2, snkP_offer hp hbn hfi, ?_⟩
      rw [← hr]
      conv => rhs; unfold drain
      rw [if_neg hlt, if_pos hfi]
     ·rw [← hr]
      conv => rhs; unfold drain
      rw [if_neg hlt, if_neg hfi]
    obtain ⟨X, hX⟩ : ∃ X, offer b k s1 = X := ⟨_, rfl⟩
    obtain ⟨hn1, hn2⟩ := hnx X hX
    rw [hX] at hof
    have HOF := Lib.hid hof
    have HMV := Lib.hid hmv
    have HN1 := Lib.hid hn1
    have HN2 := Lib.hid hn2
    clear hr hws hmv hC hof hnx hX hn1 hn2
    go_wp2_with fail
    refine HOF.out.mono ?_
    rintro e w2 ⟨ev, o2, rfl, hev, hws2, hm2⟩
    have HM2 := Lib.hid (HMV.out.trans hm2)
    by_cases hfi : X.1 = .fine
    ·obtain ⟨q1, q2, q3, q4⟩ := HN1.out hfi
     rw [hfi] at hev
     have hev2 : ev = .nilIface := hev
     subst hev2
     obtain ⟨a2, cap2, hC2⟩ := hws2.blk
     have hwl2 : waitLen w2 C = X.2.1.length := by unfold waitLen; rw [Lib.cell_of_heap hC2]; rfl
     have n1 := neErr0
     have HWS2 := Lib.hid hws2
     have Q4 := Lib.hid q4
     have Q3 := Lib.hid q3
     have HWL := Lib.hid hwl
     have HWL2 := Lib.hid hwl2
     clear hev hws2 hm2 hfi hC2 q3 q4 hwl hwl2
     go_wp2
     go_roundw
     case rel => exact ⟨f, _, _, _, o2, HWS2.out, HM2.out, by omega, Q4.out, Q3.out, by omega⟩
     case measure => rw [HWL.out, HWL2.out]; exact q1
    ·have hXR := HN2.out hfi
     subst hXR
     obtain ⟨c, hc⟩ : ∃ c, ev = .iface 90 (.pointer (some ⟨c, 0, none⟩)) := by
      unfold WErr at hev
      split at hev
      ·rename_i h0; exact absurd h0 hfi
      ·obtain ⟨c, rfl, -⟩ := hev; exact ⟨c, rfl⟩
      ·obtain ⟨c, _, _, rfl, -⟩ := hev; exact ⟨c, rfl⟩
     subst hc
     have n1 := neErrW c
     have HEV := Lib.hid hev
     have HWS2 := Lib.hid hws2
     clear hev hws2 hm2 hfi hwl
     go_wp2
     go_ret
     exact ⟨_, o2, rfl, HEV.out, HWS2.out, HM2.out⟩
end Go.Proofs.YtbioecifiogffabGreatDoor
namespace Go.Proofs.YtbioecifiogffabGreatDoor
open Go.RowKit
theorem rpl_len (c : UInt8) (r l : List UInt8) (h : 1 ≤ r.length) : (rpl c r l).length ≤ r.length * l.length := by
 induction l with
 | nil => simp [rpl]
 | cons b t ih =>
  rw [rpl_cons, List.length_append, List.length_cons, Nat.mul_add, Nat.mul_one]
  split
  ·omega
  ·simp only [List.length_cons, List.length_nil]; omega
theorem rplAll_any (R : ByteArray) (c : UInt8) (r : List UInt8) (hcr : ([c] == r) = false) (hr : r.length ≤ 6) (hs : R.size ≤ 268435456) (W : World) (hG : Gl W) : Calls Tryz.prog 51 #[.string R, .string ⟨#[c]⟩, .string ⟨r.toArray⟩] W fun e w' => e = .returned (.string ⟨(rpl c r R.data.toList).toArray⟩) ∧ Fresh W w' := by
 obtain ⟨⟨m, hm⟩, -⟩ := hG
 have hc := Lib.countB_le ⟨#[c]⟩ (Nat.le_refl 1) R.size R (Nat.le_refl _)
 have hrs : (⟨r.toArray⟩ : ByteArray).size ≤ 6 := by simpa [ByteArray.size] using hr
 have hmul : Lib.countB R ⟨#[c]⟩ * (⟨r.toArray⟩ : ByteArray).size ≤ R.size * 6 := Nat.mul_le_mul hc hrs
 refine (Tryz.strings_ReplaceAll R ⟨#[c]⟩ ⟨r.toArray⟩ m W (by omega) hm (Nat.le_refl 1) (by omega)).mono ?_
 rintro e w' ⟨rfl, hb⟩
 rw [show (⟨#[c]⟩ : ByteArray).data.toList = [c] from rfl, show (⟨r.toArray⟩ : ByteArray).data.toList = r from rfl, replaceAll_rpl _ _ _ hcr]
 exact ⟨rfl, Fresh.of hb⟩
def escN (l : List UInt8) : Nat → List UInt8
 | 0 => l
 | 1 => rpl 38 [38, 97, 109, 112, 59] l
 | 2 => rpl 60 [38, 108, 116, 59] (rpl 38 [38, 97, 109, 112, 59] l)
 | 3 => rpl 62 [38, 103, 116, 59] (rpl 60 [38, 108, 116, 59] (rpl 38 [38, 97, 109, 112, 59] l))
 | _ => rpl 34 [38, 113, 117, 111, 116, 59] (rpl 62 [38, 103, 116, 59] (rpl 60 [38, 108, 116, 59] (rpl 38 [38, 97, 109, 112, 59] l)))
theorem escN_len (l : List UInt8) : (escN l 1).length ≤ 5 * l.length ∧ (escN l 2).length ≤ 20 * l.length ∧ (escN l 3).length ≤ 80 * l.length := by
 have h1 := rpl_len 38 [38, 97, 109, 112, 59] l (by decide)
 have h2 := rpl_len 60 [38, 108, 116, 59] (rpl 38 [38, 97, 109, 112, 59] l) (by decide)
 have h3 := rpl_len 62 [38, 103, 116, 59] (rpl 60 [38, 108, 116, 59] (rpl 38 [38, 97, 109, 112, 59] l)) (by decide)
 simp only [List.length_cons, List.length_nil] at h1 h2 h3
 simp only [escN]
 omega
theorem escTab0 (W : World) : (Instr.index 140 (.agg #[.string ⟨#[38]⟩, .string ⟨#[38, 97, 109, 112, 59]⟩, .string ⟨#[60]⟩, .string ⟨#[38, 108, 116, 59]⟩, .string ⟨#[62]⟩, .string ⟨#[38, 103, 116, 59]⟩, .string ⟨#[34]⟩, .string ⟨#[38, 113, 117, 111, 116, 59]⟩]) (.int .i64 0)).run Tryz.prog W = .ok (.agg #[.string ⟨#[38]⟩, .string ⟨#[38, 97, 109, 112, 59]⟩]) W := by kernel_rfl
theorem escTab1 (W : World) : (Instr.index 140 (.agg #[.string ⟨#[38]⟩, .string ⟨#[38, 97, 109, 112, 59]⟩, .string ⟨#[60]⟩, .string ⟨#[38, 108, 116, 59]⟩, .string ⟨#[62]⟩, .string ⟨#[38, 103, 116, 59]⟩, .string ⟨#[34]⟩, .string ⟨#[38, 113, 117, 111, 116, 59]⟩]) (.int .i64 1)).run Tryz.prog W = .ok (.agg #[.string ⟨#[60]⟩, .string ⟨#[38, 108, 116, 59]⟩]) W := by kernel_rfl
theorem escTab2 (W : World) : (Instr.index 140 (.agg #[.string ⟨#[38]⟩, .string ⟨#[38, 97, 109, 112, 59]⟩, .string ⟨#[60]⟩, .string ⟨#[38, 108, 116, 59]⟩, .string ⟨#[62]⟩, .string ⟨#[38, 103, 116, 59]⟩, .string ⟨#[34]⟩, .string ⟨#[38, 113, 117, 111, 116, 59]⟩]) (.int .i64 2)).run Tryz.prog W = .ok (.agg #[.string ⟨#[62]⟩, .string ⟨#[38, 103, 116, 59]⟩]) W := by kernel_rfl
theorem escTab3 (W : World) : (Instr.index 140 (.agg #[.string ⟨#[38]⟩, .string ⟨#[38, 97, 109, 112, 59]⟩, .string ⟨#[60]⟩, .string ⟨#[38, 108, 116, 59]⟩, .string ⟨#[62]⟩, .string ⟨#[38, 103, 116, 59]⟩, .string ⟨#[34]⟩, .string ⟨#[38, 113, 117, 111, 116, 59]⟩]) (.int .i64 3)).run Tryz.prog W = .ok (.agg #[.string ⟨#[34]⟩, .string ⟨#[38, 113, 117, 111, 116, 59]⟩]) W := by kernel_rfl
theorem hEsc_any (s : ByteArray) (w : World) (hs : s.size ≤ 2097152) (hG : Gl w) :
 Calls Tryz.prog 33 #[.string s] w fun e w' => e = .returned (.string ⟨(escT s.data.toList).toArray⟩) ∧ Fresh w w' := by
 obtain ⟨h1, h2, h3⟩ := escN_len s.data.toList
 have hsl : s.data.toList.length = s.size := by simp
 have r0 := fun (W : World) (hW : Gl W) => rplAll_any ⟨(escN s.data.toList 0).toArray⟩ 38 [38, 97, 109, 112, 59] (by decide) (by decide) (by show s.size ≤ _; omega) W hW
 have r1 := fun (W : World) (hW : Gl W) => rplAll_any ⟨(escN s.data.toList 1).toArray⟩ 60 [38, 108, 116, 59] (by decide) (by decide) (by simp [ByteArray.size]; omega) W hW
 have r2 := fun (W : World) (hW : Gl W) => rplAll_any ⟨(escN s.data.toList 2).toArray⟩ 62 [38, 103, 116, 59] (by decide) (by decide) (by simp [ByteArray.size]; omega) W hW
 have r3 := fun (W : World) (hW : Gl W) => rplAll_any ⟨(escN s.data.toList 3).toArray⟩ 34 [38, 113, 117, 111, 116, 59] (by decide) (by decide) (by simp [ByteArray.size]; omega) W hW
 have hst : s = ⟨(escN s.data.toList 0).toArray⟩ := rfl
 have hres : escN s.data.toList 4 = escT s.data.toList := esc_four _
 rw [← hres]
 have R0 : ∀ W, Gl W → Calls Tryz.prog 51 #[.string ⟨(escN s.data.toList 0).toArray⟩, .string ⟨#[38]⟩, .string ⟨#[38, 97, 109, 112, 59]⟩] W fun e w' => e = .returned (.string ⟨(escN s.data.toList 1).toArray⟩) ∧ Fresh W w' := r0
 have R1 : ∀ W, Gl W → Calls Tryz.prog 51 #[.string ⟨(escN s.data.toList 1).toArray⟩, .string ⟨#[60]⟩, .string ⟨#[38, 108, 116, 59]⟩] W fun e w' => e = .returned (.string ⟨(escN s.data.toList 2).toArray⟩) ∧ Fresh W w' := r1
 have R2 : ∀ W, Gl W → Calls Tryz.prog 51 #[.string ⟨(escN s.data.toList 2).toArray⟩, .string ⟨#[62]⟩, .string ⟨#[38, 103, 116, 59]⟩] W fun e w' => e = .returned (.string ⟨(escN s.data.toList 3).toArray⟩) ∧ Fresh W w' := r2
 have R3 : ∀ W, Gl W → Calls Tryz.prog 51 #[.string ⟨(escN s.data.toList 3).toArray⟩, .string ⟨#[34]⟩, .string ⟨#[38, 113, 117, 111, 116, 59]⟩] W fun e w' => e = .returned (.string ⟨(escN s.data.toList 4).toArray⟩) ∧ Fresh W w' := r3
 obtain ⟨e, he⟩ : ∃ e : Nat → List UInt8, escN s.data.toList = e := ⟨_, rfl⟩
 rw [he] at R0 R1 R2 R3 hst ⊢
 clear r0 r1 r2 r3 h1 h2 h3 hres hsl
 have H0 := Lib.hid R0
 have H1 := Lib.hid R1
 have H2 := Lib.hid R2
 have H3 := Lib.hid R3
 have HG := Lib.hid hG
 clear R0 R1 R2 R3 hG he
 rw [hst]
 clear hst
 go_enter Tryz.func33, Tryz.ntmps33
 go_wp2
 go_loopw [0, 10] (fun s i wr => ∃ j : Nat, j ≤ 4 ∧ i = .int .i64 j ∧ s = .string ⟨(e j).toArray⟩ ∧ Fresh w wr) (fun _ i _ => 4 - (intOf i).toNat)
 case atStart => exact ⟨0, by omega, rfl, rfl, Keeps.refl _ _⟩
 case round =>
  obtain ⟨j, hj, rfl, rfl, hF⟩ := hrel
  have HF := Lib.hid hF
  clear hF
  rcases (by omega : j = 0 ∨ j = 1 ∨ j = 2 ∨ j = 3 ∨ j = 4) with rfl | rfl | rfl | rfl | rfl
  ·have hi0 := escTab0
   go_wp2_with fail
   refine (H0.out _ (HG.out.fresh ((HF.out).alloc _))).mono ?_
   rintro r w2 ⟨rfl, hk2⟩
   have HK2 := Lib.hid ((HF.out.alloc _).tr hk2)
   clear hk2
   go_wp2
   go_roundw
   case rel => exact ⟨1, by omega, by go_num, rfl, HK2.out⟩
   case measure => simp [intOf]
  ·have hi0 := escTab1
   go_wp2_with fail
   refine (H1.out _ (HG.out.fresh ((HF.out).alloc _))).mono ?_
   rintro r w2 ⟨rfl, hk2⟩
   have HK2 := Lib.hid ((HF.out.alloc _).tr hk2)
   clear hk2
   go_wp2
   go_roundw
   case rel => exact ⟨2, by omega, by go_num, rfl, HK2.out⟩
   case measure => simp [intOf]
  ·have hi0 := escTab2
   go_wp2_with fail
   refine (H2.out _ (HG.out.fresh ((HF.out).alloc _))).mono ?_
   rintro r w2 ⟨rfl, hk2⟩
   have HK2 := Lib.hid ((HF.out.alloc _).tr hk2)
   clear hk2
   go_wp2
   go_roundw
   case rel => exact ⟨3, by omega, by go_num, rfl, HK2.out⟩
   case measure => simp [intOf]
  ·have hi0 := escTab3
   go_wp2_with fail
   refine (H3.out _ (HG.out.fresh ((HF.out).alloc _))).mono ?_
   rintro r w2 ⟨rfl, hk2⟩
   have HK2 := Lib.hid ((HF.out.alloc _).tr hk2)
   clear hk2
   go_wp2
   go_roundw
   case rel => exact ⟨4, by omega, by go_num, rfl, HK2.out⟩
   case measure => simp [intOf]
  ·go_wp2
   go_ret
   exact ⟨rfl, HF.out⟩
end Go.Proofs.YtbioecifiogffabGreatDoor
namespace Go.Proofs.YtbioecifiogffabGreatDoor
open Go.RowKit
def hNm (e : Ev) : List UInt8 × Bool :=
 if e.kind = 0 then ([112], false) else if e.kind = 1 then ([104, (48 + e.level).toNat.toUInt8], false) else if e.kind = 2 then ([98, 108, 111, 99, 107, 113, 117, 111, 116, 101], true)
 else if e.kind = 3 then ([117, 108], true) else if e.kind = 4 then ([108, 105], true) else ([], false)
theorem hName_any (e : Ev) (m : Nat) (w : World) (hg : EvGood m e) :
 Calls Tryz.prog 31 #[evV e] w fun r w' => r = .returned (.tuple #[.string ⟨(hNm e).1.toArray⟩, .bool (hNm e).2]) ∧ Fresh w w' := by
 obtain ⟨kd, fn, lv, tx⟩ := e
 obtain ⟨h1, h2, h3, -⟩ := hg
 simp only at h1 h2 h3
 unfold evV
 simp only
 by_cases hk1 : kd = 1
 ·subst hk1
  obtain ⟨h4, h5⟩ := h3 rfl
  rcases (by omega : lv = 1 ∨ lv = 2 ∨ lv = 3) with rfl | rfl | rfl
  ·have hit := fun W : World => Tryz.strconv_Itoa_small 1 (by decide) W
   rw [show (⟨(Lib.decDigits 1).toArray⟩ : ByteArray) = ⟨#[49]⟩ by decide +kernel, show ((1 : Nat) : Int) = 1 from rfl] at hit
   go_enter Tryz.func31, Tryz.ntmps31
   go_wp2_with fail
   refine (hit _).mono ?_
   rintro r w2 ⟨rfl, rfl⟩
   go_wp2
   go_ret2
   exact ⟨rfl, (Keeps.refl _ _).alloc _⟩
  ·have hit := fun W : World => Tryz.strconv_Itoa_small 2 (by decide) W
   rw [show (⟨(Lib.decDigits 2).toArray⟩ : ByteArray) = ⟨#[50]⟩ by decide +kernel, show ((2 : Nat) : Int) = 2 from rfl] at hit
   go_enter Tryz.func31, Tryz.ntmps31
   go_wp2_with fail
   refine (hit _).mono ?_
   rintro r w2 ⟨rfl, rfl⟩
   go_wp2
   go_ret2
   exact ⟨rfl, (Keeps.refl _ _).alloc _⟩
  ·have hit := fun W : World => Tryz.strconv_Itoa_small 3 (by decide) W
   rw [show (⟨(Lib.decDigits 3).toArray⟩ : ByteArray) = ⟨#[51]⟩ by decide +kernel, show ((3 : Nat) : Int) = 3 from rfl] at hit
   go_enter Tryz.func31, Tryz.ntmps31
   go_wp2_with fail
   refine (hit _).mono ?_
   rintro r w2 ⟨rfl, rfl⟩
   go_wp2
   go_ret2
   exact ⟨rfl, (Keeps.refl _ _).alloc _⟩
 ·rcases (by omega : kd = 0 ∨ kd = 2 ∨ kd = 3 ∨ kd = 4 ∨ kd = 5 ∨ kd = 6 ∨ kd = 7 ∨ kd = 8 ∨ kd = 9 ∨ kd = 10 ∨ kd = 11) with rfl | rfl | rfl | rfl | rfl | rfl | rfl | rfl | rfl | rfl | rfl
  all_goals
   go_enter Tryz.func31, Tryz.ntmps31
   go_wp2
   go_ret2
   exact ⟨rfl, (Keeps.refl _ _).alloc _⟩
end Go.Proofs.YtbioecifiogffabGreatDoor
namespace Go.Proofs.YtbioecifiogffabGreatDoor
open Go.RowKit
def lowB (c : UInt8) : Int := bits .or .u8 (c.toNat : Int) 32
theorem kps_tests (c : UInt8) : kps c = ((decide (97 ≤ lowB c) && decide (lowB c ≤ 122)) || (decide (48 ≤ (c.toNat : Int)) && decide ((c.toNat : Int) ≤ 57)) || decide (0 ≤ Lib.indexByte kpL c)) := by
 have h : ∀ n : Fin 256, kps (UInt8.ofNat n.val) = ((decide (97 ≤ lowB (UInt8.ofNat n.val)) && decide (lowB (UInt8.ofNat n.val) ≤ 122)) || (decide (48 ≤ ((UInt8.ofNat n.val).toNat : Int)) && decide (((UInt8.ofNat n.val).toNat : Int) ≤ 57)) || decide (0 ≤ Lib.indexByte kpL (UInt8.ofNat n.val))) := by decide +kernel
 have := h ⟨c.toNat, c.toNat_lt⟩
 simpa using this
theorem whrT_snoc (s : ByteArray) (j : Nat) (h : j < s.size) : whrT (s.data.toList.take (j + 1)) = whrT (s.data.toList.take j) ++ whrB (s[j]'h) := by
 have e : s.data.toList.take (j + 1) = s.data.toList.take j ++ [s[j]'h] := by
  rw [List.take_succ_eq_append_getElem (by simpa using h)]; rfl
 unfold whrT
 rw [e, List.flatMap_append]
 simp
theorem hex_at (n : Nat) (h : n < 16) : (⟨#[48, 49, 50, 51, 52, 53, 54, 55, 56, 57, 65, 66, 67, 68, 69, 70]⟩ : ByteArray)[n]'h = hexB n := by
 match n, h with
 | 0, _ => rfl
 | 1, _ => rfl
 | 2, _ => rfl
 | 3, _ => rfl
 | 4, _ => rfl
 | 5, _ => rfl
 | 6, _ => rfl
 | 7, _ => rfl
 | 8, _ => rfl
 | 9, _ => rfl
 | 10, _ => rfl
 | 11, _ => rfl
 | 12, _ => rfl
 | 13, _ => rfl
 | 14, _ => rfl
 | 15, _ => rfl
 | n + 16, h => omega
theorem whr_any (s : ByteArray) (w : World) (hs : s.size ≤ 2097152) :
 Calls Tryz.prog 32 #[.string s] w fun e w' => e = .returned (.string ⟨(whrT s.data.toList).toArray⟩) ∧ Fresh w w' := by
 go_enter Tryz.func32, Tryz.ntmps32
 go_wp2
 go_loopw [9] (fun i wr => ∃ (j gb : Nat), i = .int .i64 j ∧ j ≤ s.size ∧ BIs wr w.heap.size gb (Lib.byteCells (whrT (s.data.toList.take j))) ∧ w.heap.size ≤ gb ∧ Fresh w wr) (fun i _ => s.size - (intOf i).toNat)
 case atStart => exact ⟨0, _, rfl, Nat.zero_le _, BIs.fresh w _, Nat.le_refl _, (Keeps.refl _ _).alloc _⟩
 case round =>
  obtain ⟨j, gb, rfl, hj, hB, hgb, hF⟩ := hrel
  by_cases hlt : j < s.size
  ·have hsn := whrT_snoc s j hlt
   have hlen : (Lib.byteCells (whrT (s.data.toList.take j))).length ≤ 10485760 := by
    have h1 := whr_len (s.data.toList.take j)
    have h2 := List.length_take_le j s.data.toList
    simp only [Lib.byteCells, List.length_map]
    omega
   obtain ⟨c, hc⟩ : ∃ c, s[j] = c := ⟨_, rfl⟩
   rw [hc] at hsn
   obtain ⟨T, hT⟩ : ∃ T, whrT (s.data.toList.take j) = T := ⟨_, rfl⟩
   rw [hT] at hsn hB hlen
   obtain ⟨lo, hlo⟩ : ∃ lo, bits .or .u8 (c.toNat : Int) 32 = lo := ⟨_, rfl⟩
   have hkt := kps_tests c
   unfold lowB at hkt
   rw [hlo] at hkt
   have hix := fun W : World => Tryz.strings_IndexByte ⟨#[45, 46, 95, 126, 47, 63, 35, 61, 58, 43, 44, 59, 64, 33, 36, 39, 40, 41, 42, 37]⟩ (c.toNat : Int) W
   rw [show (c.toNat : Int).toNat.toUInt8 = c by simp, show (⟨#[45, 46, 95, 126, 47, 63, 35, 61, 58, 43, 44, 59, 64, 33, 36, 39, 40, 41, 42, 37]⟩ : ByteArray).data.toList = kpL from rfl] at hix
   have hwb := fun x => Builder_WriteByte w.heap.size gb _ x wr hB (by omega)
   have hc0 := c.toNat_lt
   generalize Lib.indexByte kpL c = ix at hix hkt
   by_cases hk : kps c = true
   ·have hw : whrB c = [c] := by
     unfold whrB
     rw [if_neg (by intro e; rw [e] at hk; revert hk; decide), if_pos hk]
    rw [hw] at hsn
    rw [hk] at hkt
    have hcase : (97 ≤ lo ∧ lo ≤ 122) ∨ (97 ≤ lo ∧ 122 < lo ∧ 48 ≤ (c.toNat : Int) ∧ (c.toNat : Int) ≤ 57) ∨ (lo < 97 ∧ 48 ≤ (c.toNat : Int) ∧ (c.toNat : Int) ≤ 57) ∨ (97 ≤ lo ∧ 122 < lo ∧ 48 ≤ (c.toNat : Int) ∧ 57 < (c.toNat : Int) ∧ 0 ≤ ix) ∨ (97 ≤ lo ∧ 122 < lo ∧ (c.toNat : Int) < 48 ∧ 0 ≤ ix) ∨ (lo < 97 ∧ 48 ≤ (c.toNat : Int) ∧ 57 < (c.toNat : Int) ∧ 0 ≤ ix) ∨ (lo < 97 ∧ (c.toNat : Int) < 48 ∧ 0 ≤ ix) := by
     have := hkt.symm
     simp only [Bool.or_eq_true, Bool.and_eq_true, decide_eq_true_eq] at this
     omega
    have HIX := Lib.hid hix
    have HWB := Lib.hid hwb
    have HF := Lib.hid hF
    have HSN := Lib.hid hsn
    have hBl := hB.lt
    clear hkt hix hwb hB hF hsn hk hw hT
    rcases hcase with ⟨a1, a2⟩ | ⟨a1, a2, a3, a4⟩ | ⟨a1, a3, a4⟩ | ⟨a1, a2, a3, a4, a5⟩ | ⟨a1, a2, a3, a5⟩ | ⟨a1, a3, a4, a5⟩ | ⟨a1, a3, a5⟩
    all_goals
     go_wp2_with (go_at_call 49; refine (HIX.out _).mono ?_; rintro e w2 ⟨rfl, rfl⟩)
     refine (HWB.out _).mono ?_
     rintro e w2 ⟨rfl, gb2, hB2, hg2, hk2⟩
     have hF2 : Fresh w w2 := HF.out.trans hk2 (fun k h1 h2 => by omega)
     have hg3 : w.heap.size ≤ gb2 := by have := HF.out.size; omega
     have hB3 : BIs w2 w.heap.size gb2 (Lib.byteCells (whrT (s.data.toList.take (j + 1)))) := by rw [HSN.out, Lib.byteCells_append]; exact hB2
     have HB3 := Lib.hid hB3
     have HF2 := Lib.hid hF2
     clear hB2 hB3 hF2 hk2 hg2
     go_wp2
     go_roundw
     case rel => exact ⟨j + 1, gb2, by go_num, by omega, HB3.out, hg3, HF2.out⟩
     case measure => simp [intOf]; omega
   ·have hkf : kps c = false := by simpa using hk
    rw [hkf] at hkt
    have hcase : (97 ≤ lo ∧ 122 < lo ∧ 48 ≤ (c.toNat : Int) ∧ 57 < (c.toNat : Int) ∧ ¬ 0 ≤ ix) ∨ (97 ≤ lo ∧ 122 < lo ∧ (c.toNat : Int) < 48 ∧ ¬ 0 ≤ ix) ∨ (lo < 97 ∧ 48 ≤ (c.toNat : Int) ∧ 57 < (c.toNat : Int) ∧ ¬ 0 ≤ ix) ∨ (lo < 97 ∧ (c.toNat : Int) < 48 ∧ ¬ 0 ≤ ix) := by
     have := hkt.symm
     simp only [Bool.or_eq_false_iff, Bool.and_eq_false_iff, decide_eq_false_iff_not] at this
     omega
    have hBl := hB.lt
    by_cases h38 : c = 38
    ·subst h38
     have hw : whrB 38 = [38, 97, 109, 112, 59] := rfl
     rw [hw] at hsn
     have hws := Builder_WriteString w.heap.size gb _ ⟨#[38, 97, 109, 112, 59]⟩ wr hB (by show _ + 5 ≤ _; omega)
     have HIX := Lib.hid hix
     have HWS := Lib.hid hws
     have HF := Lib.hid hF
     have HSN := Lib.hid hsn
     have hcase2 : (97 ≤ lo ∧ 122 < lo ∧ ¬ 0 ≤ ix) ∨ (lo < 97 ∧ ¬ 0 ≤ ix) := by omega
     clear hkt hix hwb hws hB hF hsn hk hw hT hkf hcase
     rcases hcase2 with ⟨a1, a2, a5⟩ | ⟨a1, a5⟩
     all_goals
      go_wp2_with (go_at_call 49; refine (HIX.out _).mono ?_; rintro e w2 ⟨rfl, rfl⟩)
      refine HWS.out.mono ?_
      rintro e w2 ⟨rfl, gb2, hB2, hg2, hk2⟩
      have hF2 : Fresh w w2 := HF.out.trans hk2 (fun k h1 h2 => by omega)
      have hg3 : w.heap.size ≤ gb2 := by have := HF.out.size; omega
      have hB3 : BIs w2 w.heap.size gb2 (Lib.byteCells (whrT (s.data.toList.take (j + 1)))) := by rw [HSN.out, Lib.byteCells_append]; exact hB2
      have HB3 := Lib.hid hB3
      have HF2 := Lib.hid hF2
      clear hB2 hB3 hF2 hk2 hg2
      go_wp2
      go_roundw
      case rel => exact ⟨j + 1, gb2, by go_num, by omega, HB3.out, hg3, HF2.out⟩
      case measure => simp [intOf]; omega
    ·have hw : whrB c = [37, hexB (c.toNat / 16), hexB (c.toNat % 16)] := by
      unfold whrB
      rw [if_neg h38, if_neg hk]
     rw [hw] at hsn
     have h38i : ((c.toNat : Int) == 38) = false := by
      rw [beq_eq_false_iff_ne]
      intro e
      apply h38
      have : c.toNat = 38 := by omega
      exact UInt8.toNat_inj.1 this
     have HIX := Lib.hid hix
     have HWB := Lib.hid hwb
     have HF := Lib.hid hF
     have HSN := Lib.hid hsn
     clear hkt hix hwb hB hF hsn hk hw hT hkf h38
     rcases hcase with ⟨a1, a2, a3, a4, a5⟩ | ⟨a1, a2, a3, a5⟩ | ⟨a1, a3, a4, a5⟩ | ⟨a1, a3, a5⟩
     all_goals
      go_wp2_with (go_at_call 49; refine (HIX.out _).mono ?_; rintro e w2 ⟨rfl, rfl⟩)
      refine (HWB.out _).mono ?_
      rintro e w2 ⟨rfl, gb2, hB2, hg2, hk2⟩
      have hF2 : Fresh w w2 := HF.out.trans hk2 (fun k h1 h2 => by omega)
      have hg3 : w.heap.size ≤ gb2 := by have := HF.out.size; omega
      have hwb2 := fun x => Builder_WriteByte w.heap.size gb2 _ x w2 hB2 (by simp; omega)
      have HWB2 := Lib.hid hwb2
      have HF2 := Lib.hid hF2
      have hBl2 := hB2.lt
      clear hB2 hF2 hk2 hg2 hwb2
      go_wp2_with fail
      refine (HWB2.out _).mono ?_
      rintro e w3 ⟨rfl, gb3, hB3, hg3', hk3⟩
      have hF3 : Fresh w w3 := HF2.out.trans hk3 (fun k h1 h2 => by omega)
      have hg4 : w.heap.size ≤ gb3 := by have := HF2.out.size; omega
      have hwb3 := fun x => Builder_WriteByte w.heap.size gb3 _ x w3 hB3 (by simp; omega)
      have HWB3 := Lib.hid hwb3
      have HF3 := Lib.hid hF3
      have hBl3 := hB3.lt
      clear hB3 hF3 hk3 hg3' hwb3
      go_wp2_with fail
      refine (HWB3.out _).mono ?_
      rintro e w4 ⟨rfl, gb4, hB4, hg4', hk4⟩
      have hF4 : Fresh w w4 := HF3.out.trans hk4 (fun k h1 h2 => by omega)
      have hg5 : w.heap.size ≤ gb4 := by have := HF3.out.size; omega
      have hB5 : BIs w4 w.heap.size gb4 (Lib.byteCells (whrT (s.data.toList.take (j + 1)))) := by
       rw [HSN.out, Lib.byteCells_append]
       simp only [hex_at, List.append_assoc] at hB4
       exact hB4
      have HB5 := Lib.hid hB5
      have HF4 := Lib.hid hF4
      clear hB4 hB5 hF4 hk4 hg4'
      go_wp2
      go_roundw
      case rel => exact ⟨j + 1, gb4, by go_num, by omega, HB5.out, hg5, HF4.out⟩
      case measure => simp [intOf]; omega
  ·obtain rfl : j = s.size := by omega
   rw [List.take_of_length_le (by simp)] at hB
   have hst := Builder_String w.heap.size gb _ wr hB
   have HST := Lib.hid hst
   have HF := Lib.hid hF
   clear hB hst hF
   go_wp2_with fail
   refine HST.out.mono ?_
   rintro e w2 ⟨rfl, hk2⟩
   have HF2 := Lib.hid (HF.out.trans hk2 (fun k h1 h2 => by omega) : Fresh w w2)
   clear hk2
   go_wp2
   go_ret
   exact ⟨rfl, HF2.out⟩
end Go.Proofs.YtbioecifiogffabGreatDoor
namespace Go.Proofs.YtbioecifiogffabGreatDoor
open Go.RowKit
theorem ba_eq {A : ByteArray} {l : List UInt8} (h : A.data.toList = l) : A = ⟨l.toArray⟩ := by subst h; rfl
theorem hNm_some {e : Ev} (h : 0 ≤ e.kind ∧ e.kind ≤ 4) : (hNm e).1 ≠ [] ∧ htm e = (if e.fin then [60, 47] ++ (hNm e).1 ++ [62, 10] else if (hNm e).2 then [60] ++ (hNm e).1 ++ [62, 10] else [60] ++ (hNm e).1 ++ [62]) := by
 obtain ⟨kd, fn, lv, tx⟩ := e
 simp only at h
 rcases (by omega : kd = 0 ∨ kd = 1 ∨ kd = 2 ∨ kd = 3 ∨ kd = 4) with rfl | rfl | rfl | rfl | rfl
 all_goals (cases fn <;> simp [hNm, htm, tag])
theorem hText_any (e : Ev) (m : Nat) (w : World) (hg : EvGood m e) (hm : m ≤ 1048576) (hG : Gl w) :
 Calls Tryz.prog 22 #[evV e] w fun r w' => r = .returned (.string ⟨(htm e).toArray⟩) ∧ Fresh w w' := by
 have hnm := fun W : World => hName_any e m W hg
 obtain ⟨h1, h2, -, h4⟩ := hg
 have hG2 := hG.fresh ((Keeps.refl (fun _ => False) w).alloc (.cells #[.int .i64 e.kind, .bool e.fin, .int .i64 e.level, .string ⟨e.text.toArray⟩] 69))
 have hes := fun (W : World) (hW : Gl W) => hEsc_any ⟨e.text.toArray⟩ W (by simp [ByteArray.size]; omega) hW
 have hwh := fun W : World => whr_any ⟨e.text.toArray⟩ W (by simp [ByteArray.size]; omega)
 simp only [show (⟨e.text.toArray⟩ : ByteArray).data.toList = e.text from rfl] at hes hwh
 have HES := Lib.hid hes
 have HWH := Lib.hid hwh
 have HG := Lib.hid hG
 clear hes hwh hG hG2
 by_cases h5 : e.kind ≤ 4
 ·obtain ⟨hne, hht⟩ := hNm_some ⟨h1, h5⟩
  rw [hht]
  have hNb : (hNm e).1.length ≤ 100 := by unfold hNm; (repeat' split) <;> simp
  obtain ⟨N, hN, hNl, hNs⟩ := mk_of (hNm e).1
  have hNsz : N.size ≤ 100 := by omega
  have hNsz2 : (N.size : Int) ≤ 100 := by omega
  rw [hN] at hnm
  rw [← hNl] at hne ⊢
  have q1 : N.toList.isEmpty = false := by rw [ByteArray.toList_eq]; simpa using hne
  have q2 : ¬ N.toList = [] := by rw [ByteArray.toList_eq]; exact hne
  obtain ⟨ou, hou⟩ : ∃ ou, (hNm e).2 = ou := ⟨_, rfl⟩
  rw [hou] at hnm ⊢
  have HNM := Lib.hid hnm
  clear hnm hN hNl hou hne hht hNs hNb
  unfold evV at *
  obtain ⟨kd, fn, lv, tx⟩ := e
  simp only at *
  cases fn with
  | true =>
   go_enter Tryz.func22, Tryz.ntmps22
   go_wp2_with fail
   refine (HNM.out _).mono ?_
   rintro r w2 ⟨rfl, hk2⟩
   have c1 : w2.cell? ⟨w.heap.size, 1, none⟩ = some (.bool true) := hk2.cell_some (by simp) (fun h => h)
   have HK2 := Lib.hid hk2
   clear hk2
   go_wp2
   go_ret
   exact ⟨congrArg (fun b => Ending.returned (Value.string b)) (ba_eq (by simp)), ((Keeps.refl _ w).alloc _).tr HK2.out⟩
  | false =>
   cases ou with
   | true =>
    go_enter Tryz.func22, Tryz.ntmps22
    go_wp2_with fail
    refine (HNM.out _).mono ?_
    rintro r w2 ⟨rfl, hk2⟩
    have c1 : w2.cell? ⟨w.heap.size, 1, none⟩ = some (.bool false) := hk2.cell_some (by simp) (fun h => h)
    have HK2 := Lib.hid hk2
    clear hk2
    go_wp2
    go_ret
    exact ⟨congrArg (fun b => Ending.returned (Value.string b)) (ba_eq (by simp)), ((Keeps.refl _ w).alloc _).tr HK2.out⟩
   | false =>
    go_enter Tryz.func22, Tryz.ntmps22
    go_wp2_with fail
    refine (HNM.out _).mono ?_
    rintro r w2 ⟨rfl, hk2⟩
    have c1 : w2.cell? ⟨w.heap.size, 1, none⟩ = some (.bool false) := hk2.cell_some (by simp) (fun h => h)
    have HK2 := Lib.hid hk2
    clear hk2
    go_wp2
    go_ret
    exact ⟨congrArg (fun b => Ending.returned (Value.string b)) (ba_eq (by simp)), ((Keeps.refl _ w).alloc _).tr HK2.out⟩
 ·have hn0 : hNm e = ([], false) := by
   unfold hNm
   rw [if_neg (by omega), if_neg (by omega), if_neg (by omega), if_neg (by omega), if_neg (by omega)]
  rw [hn0] at hnm
  have HNM := Lib.hid hnm
  clear hnm hn0
  obtain ⟨kd, fn, lv, tx⟩ := e
  unfold evV at *
  simp only at *
  have hwl := whr_len tx
  have hel := esc_len tx
  obtain ⟨X, hX, hXl, hXs⟩ := mk_of (whrT tx)
  obtain ⟨Y, hY, hYl, hYs⟩ := mk_of (escT tx)
  rw [hX] at HWH
  rw [hY] at HES
  have hXb : X.size ≤ 10000000 := by omega
  have hYb : Y.size ≤ 10000000 := by omega
  have hXb2 : (X.size : Int) ≤ 10000000 := by omega
  have hYb2 : (Y.size : Int) ≤ 10000000 := by omega
  have HXL := Lib.hid hXl
  have HYL := Lib.hid hYl
  have HY := Lib.hid hY
  clear hwl hel hX hXl hXs hY hYl hYs
  have hent : ∀ (W : World), Fresh (w.alloc (.cells #[.int .i64 kd, .bool fn, .int .i64 lv, .string ⟨tx.toArray⟩] 69)) W → W.cell? ⟨w.heap.size, 0, none⟩ = some (.int .i64 kd) ∧ W.cell? ⟨w.heap.size, 1, none⟩ = some (.bool fn) ∧ W.cell? ⟨w.heap.size, 3, none⟩ = some (.string ⟨tx.toArray⟩) ∧ Gl W ∧ Fresh w W := fun W hW =>
   ⟨hW.cell_some (by simp) (fun h => h), hW.cell_some (by simp) (fun h => h), hW.cell_some (by simp) (fun h => h), (HG.out.fresh ((Keeps.refl _ w).alloc _)).fresh hW, ((Keeps.refl _ w).alloc _).tr hW⟩
  have HENT := Lib.hid hent
  clear hent
  rcases (by omega : kd = 5 ∨ kd = 6 ∨ kd = 7 ∨ kd = 8 ∨ kd = 9 ∨ kd = 10 ∨ kd = 11) with rfl | rfl | rfl | rfl | rfl | rfl | rfl
  ·cases fn
   all_goals
    go_enter Tryz.func22, Tryz.ntmps22
    go_wp2_with fail
    refine (HNM.out _).mono ?_
    rintro r w2 ⟨rfl, hk2⟩
    obtain ⟨c0, c1, c3, hG2, hF2⟩ := HENT.out w2 hk2
    have HF2 := Lib.hid hF2
    clear hk2 hG2 hF2
    go_wp2
    go_ret
    exact ⟨rfl, HF2.out⟩
  ·cases fn
   all_goals
    go_enter Tryz.func22, Tryz.ntmps22
    go_wp2_with fail
    refine (HNM.out _).mono ?_
    rintro r w2 ⟨rfl, hk2⟩
    obtain ⟨c0, c1, c3, hG2, hF2⟩ := HENT.out w2 hk2
    have HF2 := Lib.hid hF2
    clear hk2 hG2 hF2
    go_wp2
    go_ret
    exact ⟨rfl, HF2.out⟩
  ·cases fn with
   | true =>
    go_enter Tryz.func22, Tryz.ntmps22
    go_wp2_with fail
    refine (HNM.out _).mono ?_
    rintro r w2 ⟨rfl, hk2⟩
    obtain ⟨c0, c1, c3, hG2, hF2⟩ := HENT.out w2 hk2
    have HF2 := Lib.hid hF2
    clear hk2 hG2 hF2
    go_wp2
    go_ret
    exact ⟨rfl, HF2.out⟩
   | false =>
    go_enter Tryz.func22, Tryz.ntmps22
    go_wp2_with fail
    refine (HNM.out _).mono ?_
    rintro r w2 ⟨rfl, hk2⟩
    obtain ⟨c0, c1, c3, hG2, hF2⟩ := HENT.out w2 hk2
    have HF2 := Lib.hid hF2
    clear hk2 hG2 hF2
    go_wp2_with fail
    refine (HWH.out _).mono ?_
    rintro r w3 ⟨rfl, hk3⟩
    have HF3 := Lib.hid (HF2.out.tr hk3)
    clear hk3
    go_wp2
    go_ret
    exact ⟨congrArg (fun b => Ending.returned (Value.string b)) (ba_eq (by simp [htm, HXL.out])), HF3.out⟩
  ·go_enter Tryz.func22, Tryz.ntmps22
   go_wp2_with fail
   refine (HNM.out _).mono ?_
   rintro r w2 ⟨rfl, hk2⟩
   obtain ⟨c0, c1, c3, hG2, hF2⟩ := HENT.out w2 hk2
   have HF2 := Lib.hid hF2
   have HG2 := Lib.hid hG2
   clear hk2 hG2 hF2
   go_wp2_with fail
   refine (HES.out _ HG2.out).mono ?_
   rintro r w3 ⟨rfl, hk3⟩
   have HF3 := Lib.hid (HF2.out.tr hk3)
   clear hk3
   go_wp2
   go_ret
   exact ⟨by rw [← HY.out]; rfl, HF3.out⟩
  ·go_enter Tryz.func22, Tryz.ntmps22
   go_wp2_with fail
   refine (HNM.out _).mono ?_
   rintro r w2 ⟨rfl, hk2⟩
   obtain ⟨c0, c1, c3, hG2, hF2⟩ := HENT.out w2 hk2
   have HF2 := Lib.hid hF2
   have HG2 := Lib.hid hG2
   clear hk2 hG2 hF2
   go_wp2_with fail
   refine (HES.out _ HG2.out).mono ?_
   rintro r w3 ⟨rfl, hk3⟩
   have HF3 := Lib.hid (HF2.out.tr hk3)
   clear hk3
   go_wp2
   go_ret
   exact ⟨congrArg (fun b => Ending.returned (Value.string b)) (ba_eq (by simp [htm, HYL.out])), HF3.out⟩
  all_goals
   go_enter Tryz.func22, Tryz.ntmps22
   go_wp2_with fail
   refine (HNM.out _).mono ?_
   rintro r w2 ⟨rfl, hk2⟩
   obtain ⟨c0, c1, c3, hG2, hF2⟩ := HENT.out w2 hk2
   have HF2 := Lib.hid hF2
   clear hk2 hG2 hF2
   go_wp2
   go_ret
   exact ⟨rfl, HF2.out⟩
end Go.Proofs.YtbioecifiogffabGreatDoor
