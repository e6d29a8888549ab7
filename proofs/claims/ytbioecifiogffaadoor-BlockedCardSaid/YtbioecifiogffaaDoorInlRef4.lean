/- proseref.add: text behind some events. Condition: no more than 2^30 events, no text of more than 2^40 bytes. -/
import Derived.Test.YtbioecifiogffaaDoorInlRef3
import Derived.Test.YtbioecifiogffaaDoorEvRow
namespace Go.Proofs.YtbioecifiogffaaDoor
open Go.RowKit

theorem Tryd.infoRE : (Tryd.prog.info? 61).map (fun i => (i.zero, i.size, i.bytes)) = some (some (.agg #[.int .i64 0, .bool false, .int .i64 0, .string ⟨#[]⟩]), 4, 40) := by kernel_rfl

/-- The last event is no text. -/
def NoText (l : List Ev) : Prop := ∀ l' e, l = l' ++ [e] → e.kind ≠ 8
theorem NoText.nil : NoText [] := fun l' e h => by simp at h
theorem NoText.snoc (l : List Ev) {e : Ev} (h : e.kind ≠ 8) : NoText (l ++ [e]) := fun l' e' h' => by
  have h2 := List.append_inj' h' rfl
  simp at h2
  rw [← h2.2]; exact h
theorem NoText.app (l : List Ev) {m : List Ev} (h : NoText m) (hm : m ≠ []) : NoText (l ++ m) := by
  rcases List.eq_nil_or_concat m with rfl | ⟨m', e, rfl⟩
  · exact absurd rfl hm
  · rw [List.concat_eq_append, ← List.append_assoc]
    exact NoText.snoc _ (h m' e (by rw [List.concat_eq_append]))

set_option maxHeartbeats 2000000 in
set_option maxRecDepth 100000 in
theorem add_any (v : Value) (L : List Ev) (p : List UInt8) (s : ByteArray) (w : World) (h : Evs w 61 v (L ++ flushE p)) (hL : NoText L) (hs : s.data.toList ≠ []) (hlen : L.length ≤ 1073741824) (hsz : p.length + s.size ≤ 1099511627776) :
    Calls Tryd.prog 24 #[v, .string s] w fun e w' => ∃ v', e = .returned v' ∧ Evs w' 61 v' (L ++ flushE (p ++ s.data.toList)) ∧ Grow w v v' ∧ Keeps (fun k => v.ownBlock = some k) w w' := by
  have hi0 := Tryd.infoRE
  have hps : flushE (p ++ s.data.toList) = [⟨8, false, 0, p ++ s.data.toList⟩] := flushE_some (fun h => hs (List.append_eq_nil_iff.1 h).2)
  rw [hps]
  by_cases hp : p = []
  · subst hp
    rw [flushE_nil, List.append_nil] at h
    obtain ⟨q, c, rfl, hc, hq, hg⟩ := own_form h
    have hnew := ev_new w ⟨8, false, 0, s.data.toList⟩ 61
    have hrow := h.fresh ((Keeps.refl _ w).alloc (.cells #[.int .i64 8, .bool false, .int .i64 0, .string s] 61))
    have happ : ∀ (p : Option Addr) (c' : Nat) (w' : World), w'.ownsRow 0 61 4 (.slice p (L.length + 1) c') (L.length + 1) (evCells L ++ (⟨8, false, 0, s.data.toList⟩ : Ev).cells) → Evs w' 61 (.slice p (L.length + 1) c') (L ++ [⟨8, false, 0, [] ++ s.data.toList⟩]) := fun p c' w' h => Evs.snoc h
    have HAPP := Lib.hid happ
    have HNEW := Lib.hid hnew
    have HROW := Lib.hid hrow
    clear happ hnew hrow hps
    rcases List.eq_nil_or_concat L with rfl | ⟨M, x, hx⟩
    · clear h hg hq
      have HI := Lib.hid hi0
      clear hi0
      go_enter Tryd.func24, Tryd.ntmps24
      go_wp2_with (at_builtin; refine wpList_append_mine _ rfl _ _ 37 rfl 61 _ 4 40 Tryd.underlying37 HI.out rfl (by decide) _ _ _ rfl HROW.out (some ⟨w.heap.size, 0, none⟩) 1 1 (⟨8, false, 0, s.data.toList⟩ : Ev).cells rfl rfl (fun h => (by cases h)) HNEW.out (ev_one _) (by unfold maxLen; simp only [List.length_nil]; omega) (by simp only [List.length_nil]; omega) ?_)
      intro p' c' w2 hr hgr hk
      have hfin := HAPP.out p' c' w2 hr
      have hgr' : Grow w (.slice q ([] : List Ev).length c) (.slice p' (([] : List Ev).length + 1) c') := fun k hk => (hgr k hk).imp id (fun h => by simp at h; omega)
      have hk' : Keeps (fun k => (Value.slice q ([] : List Ev).length c).ownBlock = some k) w w2 := ((Keeps.refl _ w).alloc _).tr hk
      clear hr hgr hk
      go_wp2
      go_ret
      exact ⟨_, rfl, hfin, hgr', hk'⟩
    · rw [List.concat_eq_append] at hx
      subst hx
      have hxk := hL M x rfl
      obtain ⟨g, rfl, -, hgl, x0, -, -, -⟩ := h.at (j := M.length) (x := x) (by simp)
      have ek : ((x.kind : Int) == 8) = false := by rw [beq_eq_false_iff_ne]; exact hxk
      have hn : (M ++ [x]).length = M.length + 1 := by simp
      rw [hn] at hlen ⊢
      have hrow2 : (w.alloc (.cells #[.int .i64 8, .bool false, .int .i64 0, .string s] 61)).ownsRow 0 61 4 (.slice (some ⟨g, 0, none⟩) (M.length + 1) c) (M.length + 1) (evCells (M ++ [x])) := by rw [← hn]; exact HROW.out
      have HROW2 := Lib.hid hrow2
      clear hrow2 HROW
      have HN := Lib.hid hn
      clear h hg hq hn hL
      have HI := Lib.hid hi0
      clear hi0
      go_enter Tryd.func24, Tryd.ntmps24
      go_wp2_with (at_builtin; refine wpList_append_mine _ rfl _ _ 37 rfl 61 _ 4 40 Tryd.underlying37 HI.out rfl (by decide) _ _ _ rfl HROW2.out (some ⟨w.heap.size, 0, none⟩) 1 1 (⟨8, false, 0, s.data.toList⟩ : Ev).cells rfl rfl (fun h => (by cases h)) HNEW.out (ev_one _) (by unfold maxLen; omega) (by omega) ?_)
      intro p' c' w2 hr hgr hk
      have hfin : Evs w2 61 (.slice p' (M.length + 1 + 1) c') (M ++ [x] ++ [⟨8, false, 0, [] ++ s.data.toList⟩]) := by
        have h1 := HAPP.out p' c' w2 (by rw [HN.out]; exact hr)
        rw [HN.out] at h1
        exact h1
      have hgr' : Grow w (.slice (some ⟨g, 0, none⟩) (M.length + 1) c) (.slice p' (M.length + 1 + 1) c') := fun k hk => (hgr k hk).imp id (fun h => by simp at h; omega)
      have hk' : Keeps (fun k => (Value.slice (some ⟨g, 0, none⟩) (M.length + 1) c).ownBlock = some k) w w2 := ((Keeps.refl _ w).alloc _).tr hk
      clear hr hgr hk
      go_wp2
      go_ret
      exact ⟨_, rfl, hfin, hgr', hk'⟩
  · rw [flushE_some hp] at h
    obtain ⟨q, c, rfl, hc, hq, hg⟩ := own_form h
    obtain ⟨g, rfl, -, hgl, x0, -, -, x3⟩ := h.at (j := L.length) (x := ⟨8, false, 0, p⟩) (by simp)
    have hf3 : w.frozen? ⟨g, L.length * 4 + 3, none⟩ = false := World.ownsRow.frozenAt h _
    have hst := h.lastText (p ++ s.data.toList)
    have hn : (L ++ [(⟨8, false, 0, p⟩ : Ev)]).length = L.length + 1 := by simp
    rw [hn] at hst ⊢
    have hcat : (⟨p.toArray⟩ : ByteArray) ++ s = ⟨(p ++ s.data.toList).toArray⟩ := by
      rw [← ba_append]
    have HST := Lib.hid hst
    clear h hg hq hn hL hst hc hs hps hp
    go_enter Tryd.func24, Tryd.ntmps24
    go_wp2
    go_ret
    refine ⟨_, rfl, HST.out, Grow.refl _ _, Keeps.setCell (D := fun k => (Value.slice (some ⟨g, 0, none⟩) (L.length + 1) c).ownBlock = some k) (Keeps.refl _ w) (p := ⟨g, L.length * 4 + 3, none⟩) (fun _ => rfl) _⟩
end Go.Proofs.YtbioecifiogffaaDoor
