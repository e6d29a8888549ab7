/- plain.event, plain.events; proselaw.same at lists that are alike. Condition: no more than 10^9 events. -/
import Derived.Test.YtbioecifiogffaaDoorEvRow
import Derived.Test.YtbioecifiogffaaDoorInlRef1
import Derived.Deep.DeepCutAuto
import Derived.Deep.LoopGhost
import Derived.BigQuiet
import Derived.Deep.QuietTactic
import Derived.Deep.Draws
import Derived.IntWalk
namespace Go.Proofs.YtbioecifiogffaaDoor
open Go.RowKit

theorem Tryd.infoPE : (Tryd.prog.info? 62).map (fun i => (i.zero, i.size, i.bytes)) = some (some (.agg #[.int .i64 0, .bool false, .int .i64 0, .string ⟨#[]⟩]), 4, 40) := by kernel_rfl

set_option maxHeartbeats 1000000 in
set_option maxRecDepth 100000 in
theorem event_any (e : Ev) (w : World) :
    Calls Tryd.prog 38 #[.agg #[.int .i64 e.kind, .bool e.fin, .int .i64 e.level, .string ⟨e.text.toArray⟩]] w fun r w' => r = .returned (.agg #[.int .i64 e.kind, .bool e.fin, .int .i64 e.level, .string ⟨e.text.toArray⟩]) ∧ Fresh w w' := by
  go_enter Tryd.func38, Tryd.ntmps38
  go_wp2
  exact bodyPost_ret (v := .agg #[.int .i64 e.kind, .bool e.fin, .int .i64 e.level, .string ⟨e.text.toArray⟩]) (by simp [results, Tryd.results38, go_sem]) rfl ⟨rfl, ((Keeps.refl _ _).alloc _).alloc _⟩

theorem drop_at {α : Type} {xs ys : List α} {n k : Nat} {u : α} (h : xs.drop n = ys.drop n) (hk : n ≤ k) (hu : ys[k]? = some u) : xs[k]? = some u := by
  obtain ⟨d, rfl⟩ : ∃ d, k = n + d := ⟨k - n, by omega⟩
  rw [← List.getElem?_drop, ← h, List.getElem?_drop] at hu
  exact hu
/-- A row whose front has turned: behind it stands what stood. -/
structure Back (w : World) (t : TypeId) (g c : Nat) (L : List Ev) (j : Nat) : Prop where
  row : ∃ xs, w.ownsRow 0 t 4 (.slice (some ⟨g, 0, none⟩) L.length c) L.length xs ∧ xs.drop (j * 4) = (evCells L).drop (j * 4)
theorem Back.cells {w : World} {t : TypeId} {g c : Nat} {L : List Ev} {j : Nat} {e : Ev} (h : Back w t g c L j) (he : L[j]? = some e) :
    w.cell? ⟨g, j * 4, none⟩ = some (.int .i64 e.kind) ∧ w.cell? ⟨g, j * 4 + 1, none⟩ = some (.bool e.fin) ∧ w.cell? ⟨g, j * 4 + 2, none⟩ = some (.int .i64 e.level) ∧ w.cell? ⟨g, j * 4 + 3, none⟩ = some (.string ⟨e.text.toArray⟩) ∧ ∀ k, w.frozen? ⟨g, k, none⟩ = false := by
  obtain ⟨xs, hx, hd⟩ := h.row
  obtain ⟨h0, h1, h2, h3⟩ := evCells_get L j e he
  have hh := fun k u hu => World.ownsRow.cells (v := .slice (some ⟨g, 0, none⟩) L.length c) hx (g := g) rfl k u hu
  have ad0 : ∀ k, (⟨g, 0, none⟩ : Addr).add k = ⟨g, k, none⟩ := fun k => by rw [Addr.add_lit, Nat.zero_add]
  simp only [ad0] at hh
  exact ⟨hh _ _ (drop_at hd (by omega) h0), hh _ _ (drop_at hd (by omega) h1), hh _ _ (drop_at hd (by omega) h2), hh _ _ (drop_at hd (by omega) h3), fun k => hx.frozenAt k⟩
theorem Back.kept {D : Nat → Prop} {w w' : World} {t : TypeId} {g c : Nat} {L : List Ev} {j : Nat} (h : Back w t g c L j) (hk : Keeps D w w') (hn : ¬ D g) : Back w' t g c L j := by
  obtain ⟨xs, hx, hd⟩ := h.row
  exact ⟨xs, own_kept hx hk (fun k hk => by simp [Value.ownBlock] at hk; rw [← hk]; exact hn), hd⟩
theorem drop_set_front {α : Type} {xs : List α} {n k : Nat} {u : α} (h : k < n) : (xs.set k u).drop n = xs.drop n := by
  rw [List.drop_set_of_lt h]
theorem drop_mono {α : Type} {xs ys : List α} {n m : Nat} (h : xs.drop n = ys.drop n) (hm : n ≤ m) : xs.drop m = ys.drop m := by
  obtain ⟨d, rfl⟩ : ∃ d, m = n + d := ⟨m - n, by omega⟩
  rw [← List.drop_drop, ← List.drop_drop, h]
theorem Back.store {w : World} {t : TypeId} {g c : Nat} {L : List Ev} {j : Nat} (h : Back w t g c L j) (a b d e : Value) :
    Back ((((w.setCell ⟨g, j * 4, none⟩ a).setCell ⟨g, j * 4 + 1, none⟩ b).setCell ⟨g, j * 4 + 2, none⟩ d).setCell ⟨g, j * 4 + 3, none⟩ e) t g c L (j + 1) := by
  obtain ⟨xs, hx, hd⟩ := h.row
  have h1 := ((((hx.stored (j * 4) a).1.stored (j * 4 + 1) b).1.stored (j * 4 + 2) d).1.stored (j * 4 + 3) e).1
  refine ⟨_, h1, ?_⟩
  rw [drop_set_front (by omega), drop_set_front (by omega), drop_set_front (by omega), drop_set_front (by omega)]
  exact drop_mono hd (by omega)

set_option maxHeartbeats 4000000 in
set_option maxRecDepth 100000 in
theorem events_any (v : Value) (L : List Ev) (w : World) (h : Evs w 84 v L) (hL : L.length ≤ 1000000000) :
    Calls Tryd.prog 21 #[v] w fun r w' => ∃ u, r = .returned u ∧ Evs w' 62 u L ∧ (∀ k, u.ownBlock = some k → w.heap.size ≤ k) ∧ Keeps (fun k => v.ownBlock = some k) w w' := by
  obtain ⟨q, c, rfl, hc, hq, hg⟩ := own_form h
  have HI := Lib.hid Tryd.infoPE
  by_cases h0 : L = []
  · subst h0
    have h1 : Evs w 62 (.slice none 0 0) [] := Evs.nil _ _
    have H1 := Lib.hid h1
    clear h h1 hq hg HI
    go_enter Tryd.func21, Tryd.ntmps21
    go_wp2
    go_loopg [3, 7] 0 (fun g o i wr => o = .slice none 0 0 ∧ i = .int .i64 0 ∧ wr = w)
    case atStart => exact ⟨rfl, rfl, rfl⟩
    case round =>
      obtain ⟨rfl, rfl, rfl⟩ := hrel
      go_wp2
      go_ret
      exact ⟨_, rfl, H1.out, (fun k hk => by cases hk), Keeps.refl _ _⟩
  · have hpl : 0 < L.length := List.length_pos_iff.2 h0
    obtain ⟨g, rfl, hgl⟩ : ∃ g, q = some ⟨g, 0, none⟩ ∧ g < w.heap.size := by
      cases q with
      | none => have := (hq rfl).1; omega
      | some a => obtain ⟨g, rfl, hgl⟩ := hg a rfl; exact ⟨g, rfl, hgl⟩
    have hB : Back w 84 g c L 0 := ⟨⟨_, h, rfl⟩⟩
    have HB := Lib.hid hB
    clear h h0 hq hg hB
    go_enter Tryd.func21, Tryd.ntmps21
    go_wp2
    go_loopg [3, 7] L.length (fun gk o i wr => ∃ j, j + gk = L.length ∧ i = .int .i64 j ∧ Evs wr 62 o (L.take j) ∧ Back wr 84 g c L j ∧ (∀ k, o.ownBlock = some k → w.heap.size ≤ k) ∧ Keeps (fun k => k = g) w wr)
    case atStart => exact ⟨0, by omega, rfl, Evs.nil _ _, HB.out, (fun k hk => by cases hk), Keeps.refl _ _⟩
    case round =>
      obtain ⟨j, hj, rfl, hev, hbk, hown, hkp⟩ := hrel
      obtain ⟨q2, c2, rfl, hc2, hq2, hg2⟩ := own_form hev
      have htk : (L.take j).length = j := by rw [List.length_take]; omega
      rw [htk] at hev hq2 hc2 hown ⊢
      cases gk with
      | zero =>
        obtain rfl : j = L.length := by omega
        have hfin : Evs wr 62 (.slice q2 L.length c2) L := by rw [List.take_length] at hev; exact hev
        have HFIN := Lib.hid hfin
        have HOWN := Lib.hid hown
        have HKP := Lib.hid hkp
        clear hfin hown hkp hev hbk hq2 hg2 htk
        go_wp2
        go_ret
        exact ⟨_, rfl, HFIN.out, HOWN.out, HKP.out.mono (fun k _ hk => by rw [hk]; rfl)⟩
      | succ gk =>
        have hlt : j < L.length := by omega
        obtain ⟨e, he⟩ : ∃ e, L[j]? = some e := ⟨L[j], List.getElem?_eq_getElem hlt⟩
        obtain ⟨x0, x1, x2, x3, xf⟩ := hbk.cells he
        have hec := fun W : World => event_any e W
        have htk2 : L.take (j + 1) = L.take j ++ [e] := by
          rw [List.take_add_one, he]
          rfl
        have hgb : g < wr.heap.size := World.block_lt_of_cell? _ _ x0
        have hown2 : ∀ k, (Value.slice q2 j c2).ownBlock = some k → k ≠ g := fun k hk e => by
          have := hown k hk
          omega
        have HEC := Lib.hid hec
        have HE := Lib.hid he
        have HTK := Lib.hid htk2
        have HTL := Lib.hid htk
        have HEV := Lib.hid hev
        have HBK := Lib.hid hbk
        have HOWN := Lib.hid hown
        have HOWN2 := Lib.hid hown2
        have HKP := Lib.hid hkp
        clear hec htk htk2 hev hbk hown hown2 hkp hq2 hg2 he xf hc2
        go_wp2_with fail
        refine (HEC.out _).mono ?_
        rintro r w2 ⟨rfl, hk2⟩
        have hF3 : Fresh w2 (w2.alloc (.cells #[.int .i64 e.kind, .bool e.fin, .int .i64 e.level, .string ⟨e.text.toArray⟩] 62)) := (Keeps.refl _ w2).alloc _
        have hev3 := HEV.out.fresh (hk2.tr hF3)
        unfold Evs at hev3
        rw [HTL.out] at hev3
        have HEV3 := Lib.hid hev3
        have HK2 := Lib.hid hk2
        clear hev3 hk2 hF3
        go_wp2_with (at_builtin; refine wpList_append_mine _ rfl _ _ 34 rfl 62 _ 4 40 Tryd.underlying34 HI.out rfl (by decide) _ _ _ rfl HEV3.out _ 1 1 e.cells rfl rfl (fun h => (by cases h)) (ev_new w2 e 62) (ev_one _) (by unfold maxLen; omega) (by omega) ?_)
        intro p3 c3 w3 hr3 hg3 hk3
        have hbk3 : Back w3 84 g c L j := (HBK.out.kept (HK2.out.tr ((Keeps.refl _ w2).alloc _)) (fun h => h)).kept hk3 (fun h => HOWN2.out g h rfl)
        obtain ⟨y0, y1, y2, y3, yf⟩ := hbk3.cells HE.out
        have f0 := yf (j * 4)
        have f1 := yf (j * 4 + 1)
        have f2 := yf (j * 4 + 2)
        have f3 := yf (j * 4 + 3)
        have hb4 := hbk3.store (.int .i64 0) (.bool false) (.int .i64 0) (.string ⟨#[109, 105, 110, 101]⟩)
        have hkW : Keeps (fun k => k = g) w w3 := (HKP.out.tr ((HK2.out.tr ((Keeps.refl _ w2).alloc _)).mono (fun _ _ h => h.elim))).trans hk3 (fun k h1 h2 => by have := HOWN.out k h2; omega)
        have hev4 : Evs w3 62 (.slice p3 (j + 1) c3) (L.take (j + 1)) := by
          rw [HTK.out]
          unfold Evs
          rw [evCells_append, evCells_one, List.length_append, HTL.out]
          exact hr3
        have hown4 : ∀ k, (Value.slice p3 (j + 1) c3).ownBlock = some k → w.heap.size ≤ k := fun k hk => by
          rcases hg3 k hk with h1 | h1
          · exact HOWN.out k h1
          · have s1 := HKP.out.size
            have s2 := HK2.out.size
            simp at h1
            omega
        have hne4 : ∀ k, (Value.slice p3 (j + 1) c3).ownBlock = some k → ¬ k = g := fun k hk e => by
          have := hown4 k hk
          omega
        have hst : Keeps (fun k => k = g) w3 ((((w3.setCell ⟨g, j * 4, none⟩ (.int .i64 0)).setCell ⟨g, j * 4 + 1, none⟩ (.bool false)).setCell ⟨g, j * 4 + 2, none⟩ (.int .i64 0)).setCell ⟨g, j * 4 + 3, none⟩ (.string ⟨#[109, 105, 110, 101]⟩)) :=
          ((((Keeps.refl (fun k => k = g) w3).setCell (p := ⟨g, j * 4, none⟩) (fun _ => rfl) _).setCell (p := ⟨g, j * 4 + 1, none⟩) (fun _ => rfl) _).setCell (p := ⟨g, j * 4 + 2, none⟩) (fun _ => rfl) _).setCell (p := ⟨g, j * 4 + 3, none⟩) (fun _ => rfl) _
        have hev5 := hev4.kept hst hne4
        have HEV5 := Lib.hid hev5
        have HB4 := Lib.hid hb4
        have HK5 := Lib.hid (hkW.tr hst)
        have HO4 := Lib.hid hown4
        clear hr3 hg3 hk3 hbk3 yf hb4 hkW hev4 hown4 hne4 hst hev5 x0 x1 x2 x3
        go_wp2
        go_roundg gk
        case measure => omega
        case rel => exact ⟨j + 1, by omega, rfl, HEV5.out, HB4.out, HO4.out, HK5.out⟩
end Go.Proofs.YtbioecifiogffaaDoor
