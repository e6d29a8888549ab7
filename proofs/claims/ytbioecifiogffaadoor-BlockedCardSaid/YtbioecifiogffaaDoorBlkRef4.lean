/- proseref.leaf, Lines, behind: what they give. Condition: no more than 2^24 bytes. -/
import Derived.Test.YtbioecifiogffaaDoorBlkRef3
import Derived.Test.YtbioecifiogffaaDoorLnRow
namespace Go.Proofs.YtbioecifiogffaaDoor
open Go.RowKit

theorem Tryd.infoRE2 : (Tryd.prog.info? 61).map (fun i => (i.zero, i.size, i.bytes)) = some (some (.agg #[.int .i64 0, .bool false, .int .i64 0, .string ⟨#[]⟩]), 4, 40) := by kernel_rfl
def EL (l : List EvL) : List Ev := l.map Prod.fst
theorem EL_append (a b : List EvL) : EL (a ++ b) = EL a ++ EL b := by simp [EL]

theorem ev_add (w : World) (e : Ev) (t : TypeId) {v : Value} {n : Nat} {xs : List Value} (h : w.ownsRow 0 t 4 v n xs) : (w.alloc (.cells #[.int .i64 e.kind, .bool e.fin, .int .i64 e.level, .string ⟨e.text.toArray⟩] t)).ownsRow 0 t 4 v n xs := own_kept h ((Keeps.refl (fun _ => False) _).alloc _) (fun _ _ h => h)
theorem ev_at (w : World) (e : Ev) (t : TypeId) (H : Nat) (hH : w.heap.size = H) : ∀ ad, some (⟨H, 0, none⟩ : Addr) = some ad → ∀ j u, e.cells[j]? = some u → (w.alloc (.cells #[.int .i64 e.kind, .bool e.fin, .int .i64 e.level, .string ⟨e.text.toArray⟩] t)).cell? (ad.add j) = some u := by
  subst hH
  exact ev_new w e t
theorem own_grow {w W w' : World} {v v' : Value} (hF : Fresh w W) (ho : ∀ b, v.ownBlock = some b → w.heap.size ≤ b) (hg : Grow W v v') (hk : Keeps (fun k => v.ownBlock = some k) W w') : (∀ b, v'.ownBlock = some b → w.heap.size ≤ b) ∧ Fresh w w' := by
  refine ⟨fun b hb => ?_, hF.trans hk (fun j h1 h2 => by have := ho j h2; omega)⟩
  rcases hg b hb with h | h
  · exact ho b h
  · exact Nat.le_trans hF.size h

set_option maxHeartbeats 2000000 in
set_option maxRecDepth 100000 in
theorem leaf_any (k lv : Int) (s : ByteArray) (lf : Bool) (w : World) :
    Calls Tryd.prog 31 #[.int .i64 k, .int .i64 lv, .string s] w fun e w' => ∃ v, e = .returned v ∧ Evs w' 61 v (EL (leafE k lv s.data.toList lf)) ∧ (∀ b, v.ownBlock = some b → w.heap.size ≤ b) ∧ Fresh w w' := by
  have HI := Lib.hid Tryd.infoRE2
  have hnil : s.toList = s.data.toList := ByteArray.toList_eq s
  have hl : (w.alloc (.cells #[.int .i64 k, .bool false, .int .i64 lv, .string ⟨#[]⟩] 61)).ownsRow 0 61 4 (.slice (some ⟨w.heap.size, 0, none⟩) 1 1) 1 (evCells [⟨k, false, lv, []⟩]) := Evs.lit w 61 [⟨k, false, lv, []⟩] (by simp [maxLen])
  have hF1 : Fresh w (w.alloc (.cells #[.int .i64 k, .bool false, .int .i64 lv, .string ⟨#[]⟩] 61)) := (Keeps.refl _ _).alloc _
  have ho1 : ∀ b, (Value.slice (some ⟨w.heap.size, 0, none⟩) 1 1).ownBlock = some b → w.heap.size ≤ b := fun b h => by simp [Value.ownBlock] at h; omega
  by_cases h0 : s.data.toList = []
  · have hq : s.toList = [] := by rw [hnil, h0]
    have he : EL (leafE k lv s.data.toList lf) = [⟨k, false, lv, []⟩] ++ [⟨k, true, lv, []⟩] := by rw [h0]; rfl
    rw [he]
    have HL := Lib.hid (ev_add _ ⟨k, true, lv, []⟩ 61 hl)
    have HF1 := Lib.hid (hF1.alloc (.cells #[.int .i64 k, .bool true, .int .i64 lv, .string ⟨#[]⟩] 61))
    have HO1 := Lib.hid ho1
    clear h0 hnil he hl hF1 ho1
    go_enter Tryd.func31, Tryd.ntmps31
    go_wp2_with (at_builtin; refine wpList_append_mine _ rfl _ _ 37 rfl 61 _ 4 40 Tryd.underlying37 HI.out rfl (by decide) _ _ _ rfl HL.out _ 1 1 (⟨k, true, lv, []⟩ : Ev).cells rfl rfl (fun h => (by cases h)) (ev_at _ ⟨k, true, lv, []⟩ 61 _ (by simp)) (ev_one _) (by decide) (by decide) ?_)
    intro p5 c5 w5 hr5 hg5 hk5
    have HR := Lib.hid (Evs.snoc (L := [⟨k, false, lv, []⟩]) hr5)
    have HO := Lib.hid (own_grow HF1.out HO1.out hg5 hk5)
    clear hr5 hg5 hk5
    go_wp2
    go_ret
    exact ⟨_, rfl, HR.out, HO.out.1, HO.out.2⟩
  · have hq : s.toList.isEmpty = false := by rw [hnil]; simpa using h0
    have hq2 : ¬ s.toList = [] := by rw [hnil]; exact h0
    have he : EL (leafE k lv s.data.toList lf) = [⟨k, false, lv, []⟩, ⟨8, false, 0, s.data.toList⟩] ++ [⟨k, true, lv, []⟩] := by simp [leafE, txE, h0, EL]
    rw [he]
    have hss : (⟨s.data.toList.toArray⟩ : ByteArray) = s := rfl
    have hl1 := ev_add _ ⟨8, false, 0, s.data.toList⟩ 61 hl
    rw [hss] at hl1
    have HL := Lib.hid hl1
    have HF1 := Lib.hid (hF1.alloc (.cells #[.int .i64 8, .bool false, .int .i64 0, .string s] 61))
    have HO1 := Lib.hid ho1
    have hne := ev_at (w.alloc (.cells #[.int .i64 k, .bool false, .int .i64 lv, .string ⟨#[]⟩] 61)) ⟨8, false, 0, s.data.toList⟩ 61 (w.heap.size + 1) (by simp)
    rw [hss] at hne
    have HNE := Lib.hid hne
    clear h0 hnil he hl hF1 ho1 hl1 hne hss
    go_enter Tryd.func31, Tryd.ntmps31
    go_wp2_with (at_builtin; refine wpList_append_mine _ rfl _ _ 37 rfl 61 _ 4 40 Tryd.underlying37 HI.out rfl (by decide) _ _ _ rfl HL.out _ 1 1 (⟨8, false, 0, s.data.toList⟩ : Ev).cells rfl rfl (fun h => (by cases h)) HNE.out (ev_one _) (by decide) (by decide) ?_)
    intro p5 c5 w5 hr5 hg5 hk5
    have hr6 : w5.ownsRow 0 61 4 (.slice p5 2 c5) 2 (evCells [⟨k, false, lv, []⟩, ⟨8, false, 0, s.data.toList⟩]) := hr5
    obtain ⟨ho5, hF5⟩ := own_grow HF1.out HO1.out hg5 hk5
    have HL2 := Lib.hid (ev_add _ ⟨k, true, lv, []⟩ 61 hr6)
    have HF2 := Lib.hid (hF5.alloc (.cells #[.int .i64 k, .bool true, .int .i64 lv, .string ⟨#[]⟩] 61))
    have HO2 := Lib.hid (ho5 : ∀ b, (Value.slice p5 2 c5).ownBlock = some b → w.heap.size ≤ b)
    clear hr5 hg5 hk5 hr6 ho5 hF5
    go_wp2_with (at_builtin; refine wpList_append_mine _ rfl _ _ 37 rfl 61 _ 4 40 Tryd.underlying37 HI.out rfl (by decide) _ _ _ rfl HL2.out _ 1 1 (⟨k, true, lv, []⟩ : Ev).cells rfl rfl (fun h => (by cases h)) (ev_new _ ⟨k, true, lv, []⟩ 61) (ev_one _) (by decide) (by decide) ?_)
    intro p6 c6 w6 hr6 hg6 hk6
    have HR := Lib.hid (Evs.snoc (L := [⟨k, false, lv, []⟩, ⟨8, false, 0, s.data.toList⟩]) hr6)
    have HO := Lib.hid (own_grow HF2.out HO2.out hg6 hk6)
    clear hr6 hg6 hk6
    go_wp2
    go_ret
    exact ⟨_, rfl, HR.out, HO.out.1, HO.out.2⟩
end Go.Proofs.YtbioecifiogffaaDoor
