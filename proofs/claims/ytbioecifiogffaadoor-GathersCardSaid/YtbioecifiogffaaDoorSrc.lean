/- plain's source: In.source makes it. Condition: texts and lists of at most 2^20 elements. -/
import Derived.Test.YtbioecifiogffaaDoorComeW
import Derived.Test.YtbioecifiogffaaDoorBase2
import Derived.Deep.Draws
import Derived.BigQuiet
import Derived.Deep.QuietTactic
import Derived.Deep.RegionHeld3
import Derived.Deep.DeepCutAuto
namespace Go.Proofs.YtbioecifiogffaaDoor
open Go.RowKit

/-- Block b is a source; rest is still to come, by these cuts, which lie in block g; so many reads there were. -/
def SrcAt (w : World) (b g : Nat) (rest : ByteArray) (cuts : List Int) (fa : Int) (wt : Bool) (reads : Nat) (over : Bool) : Prop :=
  ∃ ao cap, w.heap[b]? = some (.cells #[.string rest, .slice ao cuts.length cap, .int .i64 fa, .bool wt, .int .i64 reads, .bool over] 53 (0, 0)) ∧
    cuts.length ≤ cap ∧ (ao = none → cuts = [] ∧ cap = 0) ∧ (cuts ≠ [] → ∃ off, ao = some ⟨g, off, none⟩ ∧ ∀ j, j < cuts.length → w.cell? ⟨g, off + j, none⟩ = some (.int .i64 (cuts.getD j 0))) ∧ g ≠ b

theorem SrcAt.kept {D : Nat → Prop} {w w' : World} {b g : Nat} {rest : ByteArray} {cuts : List Int} {fa : Int} {wt : Bool} {reads : Nat} {over : Bool} (h : SrcAt w b g rest cuts fa wt reads over) (hk : Keeps D w w') (hb : ¬ D b) (hg : ¬ D g) : SrcAt w' b g rest cuts fa wt reads over := by
  obtain ⟨ao, cap, h1, h2, h3, h4, h5⟩ := h
  refine ⟨ao, cap, hk.heap_some h1 hb, h2, h3, fun hne => ?_, h5⟩
  obtain ⟨off, rfl, hcell⟩ := h4 hne
  exact ⟨off, rfl, fun j hj => hk.cell_some (hcell j hj) hg⟩

theorem SrcAt.lt {w : World} {b g : Nat} {rest : ByteArray} {cuts : List Int} {fa : Int} {wt : Bool} {reads : Nat} {over : Bool} (h : SrcAt w b g rest cuts fa wt reads over) : b < w.heap.size := by
  obtain ⟨ao, cap, h1, _⟩ := h
  exact (Array.getElem?_eq_some_iff.1 h1).1

theorem Tryd.infoInt : (Tryd.prog.info? 3).map (fun i => (i.zero, i.size, i.bytes)) = some (some (.int .i64 0), 1, 8) := by kernel_rfl

theorem cell_alloc_drew (X : World) (o : Obj) (p : Addr) (h : p.block < X.heap.size) : ((X.alloc o).drew).cell? p = X.cell? p := World.cell?_alloc_lt X o p h

set_option maxHeartbeats 4000000 in
set_option maxRecDepth 1000000 in
theorem source_any (s : ByteArray) (v : Value) (cs : List Int) (fa : Int) (wt : Bool) (w : World) (hv : IntsAt w v cs) (hl : cs.length ≤ 1048576) :
    Calls Tryd.prog 20 #[.agg #[.string s, v, .int .i64 fa, .bool wt]] w fun e w' =>
      ∃ b g, e = .returned (.pointer (some ⟨b, 0, none⟩)) ∧ SrcAt w' b g s cs fa wt 0 false ∧ Fresh w w' ∧ w.heap.size ≤ b ∧ w.heap.size ≤ g ∧ g < w'.heap.size := by
  obtain ⟨i0, hi, hz0, hz1, hz2⟩ := info_parts Tryd.infoInt
  obtain ⟨ao, cap, rfl, h1, h2, h3⟩ := hv
  go_enter Tryd.func20, Tryd.ntmps20
  go_wp2_with fail
  obtain ⟨W, hW⟩ : ∃ W, W = w.alloc (.cells #[.string s, .slice ao cs.length cap, .int .i64 fa, .bool wt] 25) := ⟨_, rfl⟩
  rw [← hW]
  have c0 : W.cell? ⟨w.heap.size, 0, none⟩ = some (.string s) := by rw [hW]; simp
  have c1 : W.cell? ⟨w.heap.size, 1, none⟩ = some (.slice ao cs.length cap) := by rw [hW]; simp
  have c2 : W.cell? ⟨w.heap.size, 2, none⟩ = some (.int .i64 fa) := by rw [hW]; simp
  have c3 : W.cell? ⟨w.heap.size, 3, none⟩ = some (.bool wt) := by rw [hW]; simp
  have hF : Fresh w W := by rw [hW]; exact (Keeps.refl _ w).alloc _
  have hsize : W.heap.size = w.heap.size + 1 := by rw [hW]; simp
  have hcl : w.heap.size < W.heap.size := by omega
  have HC : Hid (∀ ad, ao = some ad → ∀ j u, (cs.map (Value.int .i64))[j]? = some u → W.cell? (ad.add j) = some u) := by
    intro ad had j u hu
    have hj : j < cs.length := by have := (List.getElem?_eq_some_iff.1 hu).1; simpa using this
    obtain ⟨b, off, rfl, hc⟩ := h3 (by intro e; rw [e] at hj; simp at hj)
    cases had
    rw [Addr.add_lit]
    refine hF.cell_some ((hc j hj).trans ?_) (fun h => h)
    simp [hj] at hu ⊢
    exact hu
  have HC2 : Hid (∀ X : World, (∀ p : Addr, p.block < W.heap.size → X.cell? p = W.cell? p) → ∀ ad, ao = some ad → ∀ j u, (cs.map (Value.int .i64))[j]? = some u → X.cell? (ad.add j) = some u) := by
    intro X hX ad had j u hu
    have h := HC.out ad had j u hu
    exact (hX _ (World.block_lt_of_cell? W _ h)).trans h
  have HN : Hid (ao = none → cs.length = 0 ∧ cap = 0) := fun h => by obtain ⟨rfl, rfl⟩ := h2 h; exact ⟨rfl, rfl⟩
  have HS := Lib.hid hsize
  have HK := Lib.hid hF
  clear hW h3 h2 hF hsize
  have hrow0 : ∀ (X : World), RowIs (X.alloc (.cells #[] 3)) (.slice (some ⟨X.heap.size, 0, none⟩) 0 0) X.heap.size 3 1 0 [] := fun X =>
    ⟨World.ownsRow_made (base := 0) X #[] 0 (Nat.zero_le _) (Nat.zero_le _) (by simp), fun k h => by simp [Value.ownBlock] at h; exact h.symm⟩
  have HR := Lib.hid hrow0
  clear hrow0
  go_region_held3 (fun w' => w'.cell? ⟨w.heap.size, 0, none⟩ = some (.string s) ∧ w'.cell? ⟨w.heap.size, 1, none⟩ = some (.slice ao cs.length cap) ∧ w'.cell? ⟨w.heap.size, 2, none⟩ = some (.int .i64 fa) ∧ w'.cell? ⟨w.heap.size, 3, none⟩ = some (.bool wt))
    (first | go_keep | (go_split_ands; refine ⟨?_, ?_, ?_, ?_⟩ <;> (refine hkp.cell_some ?_ (by simp [Value.ownBlock]; omega); assumption)))
    ((refine step_append_row _ (by rfl) _ _ 23 (by rfl) 3 i0 (.int .i64 0) 1 8 Tryd.underlying23 hi hz0 hz1 hz2 rfl (by decide) (.slice (some ⟨W.heap.size, 0, none⟩) 0 0) W.heap.size 0 [] (by rfl) (HR.out _) ao cs.length cap (cs.map (Value.int .i64)) (by rfl) (by simp) HN.out
        (HC2.out _ (fun p hp => by first | exact World.cell?_alloc_lt _ _ p hp | exact cell_alloc_drew _ _ p hp)) (ints_oneCell _ _) (by unfold maxLen; omega) (by omega) ?_; intro pp cc gg w1 hrow hgat hkp))
  have hsz := hkp.size
  have hrow' : RowIs w1 (.slice pp cs.length cc) gg 3 1 cs.length (cs.map (Value.int .i64)) := by simpa using hrow
  obtain ⟨hcap, hnn⟩ := hrow'.facts
  have hF1 : Fresh w w1 := (HK.out.alloc _).drew.trans hkp (fun j h1 h2 => by
    simp [Value.ownBlock] at h2
    have := HS.out
    omega)
  have hgw : w.heap.size ≤ gg := by
    have := HS.out
    rcases hgat with h | h
    · omega
    · rw [h]; simp; omega
  have hgb : gg ≠ w1.heap.size ∨ cs = [] := by
    cases cs with
    | nil => exact .inr rfl
    | cons c r => exact .inl (Nat.ne_of_lt (hrow'.lt (by simp)).1)
  have hst : ∃ g, SrcAt (w1.alloc (.cells #[.string s, .slice pp cs.length cc, .int .i64 fa, .bool wt, .int .i64 0, .bool false] 53)) w1.heap.size g s cs fa wt 0 false ∧ w.heap.size ≤ g ∧ g < w1.heap.size + 1 := by
    have hw1 : w.heap.size < w1.heap.size := by
      have := HS.out
      simp at hsz
      omega
    refine ⟨if cs = [] then w.heap.size else gg, ⟨pp, cc, heap_alloc_new w1 _, hcap, fun e => ?_, fun hne => ?_, ?_⟩, ?_⟩
    · obtain ⟨h0, h1⟩ := hnn e
      exact ⟨List.eq_nil_of_length_eq_zero h0, h1⟩
    · have hp : 0 < cs.length := List.length_pos_iff.2 hne
      obtain ⟨hg1, rfl, _⟩ := hrow'.lt hp
      rw [if_neg hne]
      refine ⟨0, rfl, fun j hj => ?_⟩
      rw [World.cell?_alloc_lt _ _ _ hg1, Nat.zero_add, hrow'.cellAt hp j (by simpa using hj)]
      simp [hj]
    · by_cases hne : cs = []
      · rw [if_pos hne]; omega
      · rw [if_neg hne]
        rcases hgb with h | h
        · exact h
        · exact absurd h hne
    · by_cases hne : cs = []
      · rw [if_pos hne]; omega
      · rw [if_neg hne]
        have hp : 0 < cs.length := List.length_pos_iff.2 hne
        have := (hrow'.lt hp).1
        exact ⟨hgw, by omega⟩
  have hsz2 : w.heap.size ≤ w1.heap.size := hF1.size
  have HST := Lib.hid hst
  have HF1 := Lib.hid hF1
  clear hst hF1 hgb hgw hnn hcap hrow' hrow hgat hkp hsz c0 c1 c2 c3 hcl
  go_wp2
  go_ret
  obtain ⟨g, hs1, hs2, hs3⟩ := HST.out
  exact ⟨w1.heap.size, g, rfl, hs1, HF1.out.alloc _, hsz2, hs2, by simpa using hs3⟩
end Go.Proofs.YtbioecifiogffaaDoor
