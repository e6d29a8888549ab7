/- (*finder).paragraph. Condition: no more than 2^24 bytes. -/
import Derived.Test.YtbioecifiogffaaDoorBlkQuote
import Derived.Test.YtbioecifiogffaaDoorBlkCode
import Derived.Test.YtbioecifiogffaaDoorHeldK
import Derived.Test.YtbioecifiogffaaDoorBlkRef7
import Derived.Deep.RegionHeld3
namespace Go.Proofs.YtbioecifiogffaaDoor
open Go.RowKit

section
variable {k : Nat} {caps : Array Value} {R : List EvL} {F : World → List EvL → (Nat → Prop) → Prop}

/-- What a paragraph's lines hold: the variable of the lines so far, the finder's, a line. -/
def ParS (W : World) (B2 B5 C g off : Nat) (lv : Value) (S : ByteArray) (w : World) : Prop :=
  Fresh W w ∧ w.cell? ⟨B5, 0, none⟩ = some lv ∧ w.cell? ⟨B2, 0, none⟩ = some (.pointer (some ⟨C, 0, none⟩)) ∧ w.cell? ⟨g, off, none⟩ = some (.string S)
theorem ParS.next {W w w' : World} {B2 B5 C g off : Nat} {lv : Value} {S : ByteArray} (h : ParS W B2 B5 C g off lv S w) (hk : Fresh w w') : ParS W B2 B5 C g off lv S w' :=
  ⟨h.1.tr hk, hk.cell_some h.2.1 (fun h => h), hk.cell_some h.2.2.1 (fun h => h), hk.cell_some h.2.2.2 (fun h => h)⟩

/-- The paragraph's lines so far: none, and the first is to come; or some. -/
def ParL (d : Nat) (s0 : Ln) (LL : List Ln) (Z : List Ln) (cur acc : List Ln) : Prop :=
  (acc = [] ∧ ∃ t, cur = s0 :: t ∧ trm s0 :: (prg d t).1 = LL ∧ (prg d t).2 = Z) ∨ (acc ≠ [] ∧ acc ++ (prg d cur).1 = LL ∧ (prg d cur).2 = Z)

theorem sta_cases (s : Ln) (d : Nat) : sta s d = 0 ∨ sta s d = 2 ∨ sta s d = 3 ∨ sta s d = 4 ∨ sta s d = 5 := by unfold sta; (repeat' split) <;> simp
theorem ParL.step {d kk : Nat} {s0 s : Ln} {LL Z t acc : List Ln} {B : Bool} (h : ParL d s0 LL Z (s :: t) acc) (hb0 : blank s0 = false) (hk : sta s d = kk)
    (hB : B = (!blank s && (decide (acc.length = 0) || decide (kk ≠ 2 ∧ kk ≠ 3 ∧ kk ≠ 4 ∧ kk ≠ 5)))) : (B = true → ParL d s0 LL Z t (acc ++ [trm s])) ∧ (B = false → acc = LL ∧ s :: t = Z) := by
  rcases h with ⟨rfl, t', he, h1, h2⟩ | ⟨hne, h1, h2⟩
  · injection he with e1 e2
    subst e1 e2
    rw [hb0] at hB
    refine ⟨fun _ => .inr ⟨by simp, by simpa using h1, h2⟩, fun h => ?_⟩
    rw [h] at hB
    simp at hB
  · have hal : decide (acc.length = 0) = false := by
      rw [decide_eq_false_iff_not]
      intro h
      exact hne (List.eq_nil_of_length_eq_zero h)
    rw [hal, Bool.false_or] at hB
    have hc := sta_cases s d
    rw [hk] at hc
    by_cases hs : (blank s || decide (0 < sta s d)) = true
    · have e : prg d (s :: t) = ([], s :: t) := by unfold prg; rw [if_pos hs]
      rw [e] at h1 h2
      refine ⟨fun h => ?_, fun _ => ⟨by simpa using h1, h2⟩⟩
      rw [h] at hB
      rcases Bool.or_eq_true_iff.1 hs with hs | hs
      · rw [hs] at hB; cases hB
      · rw [hk] at hs
        have h0 : 0 < kk := by simpa using hs
        have : decide (kk ≠ 2 ∧ kk ≠ 3 ∧ kk ≠ 4 ∧ kk ≠ 5) = false := by rw [decide_eq_false_iff_not]; omega
        rw [this, Bool.and_false] at hB
        cases hB
    · have e : prg d (s :: t) = (trm s :: (prg d t).1, (prg d t).2) := by conv => lhs; unfold prg
                                                                          rw [if_neg hs]
      rw [e] at h1 h2
      refine ⟨fun _ => .inr ⟨by simp, by rw [← h1]; simp, h2⟩, fun h => ?_⟩
      rw [h] at hB
      have hs2 := Bool.eq_false_iff.2 hs
      rw [Bool.or_eq_false_iff] at hs2
      rw [hs2.1] at hB
      have h3 := hs2.2
      rw [hk, decide_eq_false_iff_not] at h3
      have : decide (kk ≠ 2 ∧ kk ≠ 3 ∧ kk ≠ 4 ∧ kk ≠ 5) = true := by rw [decide_eq_true_iff]; omega
      rw [this] at hB
      cases hB
/-- What the statement that adds a line reads. -/
def ParT (B5 g off : Nat) (lv : Value) (S : ByteArray) (w : World) : Prop := w.cell? ⟨B5, 0, none⟩ = some lv ∧ w.cell? ⟨g, off, none⟩ = some (.string S)
theorem ParT.kept {D : Nat → Prop} {w w' : World} {B5 g off : Nat} {lv : Value} {S : ByteArray} (h : ParT B5 g off lv S w) (hk : Keeps D w w') (h5 : ¬ D B5) (hg : ¬ D g) : ParT B5 g off lv S w' :=
  ⟨hk.cell_some h.1 h5, hk.cell_some h.2 hg⟩

theorem Fresh.drewl {w w' : World} (h : Fresh w.drew w') : Fresh w w' := ((Keeps.refl _ w).drew : Fresh w w.drew).tr h
theorem eqlFn (k : Nat) (w : World) : (binOp .eql 147 (whatV k) .nilFunc).run Tryd.prog w = .ok (.bool (decide (k ≠ 2 ∧ k ≠ 3 ∧ k ≠ 4 ∧ k ≠ 5))) w := by
  have h : ∀ f, (binOp .eql 147 (.func (.func f) #[] #[]) .nilFunc).run Tryd.prog w = .ok (.bool false) w := fun f => by kernel_rfl
  have h0 : (binOp .eql 147 .nilFunc .nilFunc).run Tryd.prog w = .ok (.bool true) w := by kernel_rfl
  unfold whatV
  by_cases k2 : k = 2
  · rw [if_pos k2, h, decide_eq_false (by omega)]
  · by_cases k3 : k = 3
    · rw [if_neg k2, if_pos k3, h, decide_eq_false (by omega)]
    · by_cases k4 : k = 4
      · rw [if_neg k2, if_neg k3, if_pos k4, h, decide_eq_false (by omega)]
      · by_cases k5 : k = 5
        · rw [if_neg k2, if_neg k3, if_neg k4, if_pos k5, h, decide_eq_false (by omega)]
        · rw [if_neg k2, if_neg k3, if_neg k4, if_neg k5, h0, decide_eq_true (by omega)]

theorem eqGFn (k n : Nat) (w : World) : (eqGuard .eql 147 (.tmp n) (.const .nilFunc) (whatV k) .nilFunc).run Tryd.prog w = .ok () w := by
  have h : ∀ f, (eqGuard .eql 147 (.tmp n) (.const .nilFunc) (.func (.func f) #[] #[]) .nilFunc).run Tryd.prog w = .ok () w := fun f => by kernel_rfl
  have h0 : (eqGuard .eql 147 (.tmp n) (.const .nilFunc) .nilFunc .nilFunc).run Tryd.prog w = .ok () w := by kernel_rfl
  unfold whatV
  by_cases k2 : k = 2
  · rw [if_pos k2, h]
  · by_cases k3 : k = 3
    · rw [if_neg k2, if_pos k3, h]
    · by_cases k4 : k = 4
      · rw [if_neg k2, if_neg k3, if_pos k4, h]
      · by_cases k5 : k = 5
        · rw [if_neg k2, if_neg k3, if_neg k4, if_pos k5, h]
        · rw [if_neg k2, if_neg k3, if_neg k4, if_neg k5, h0]

theorem joinN_lib : ∀ l : List Ln, joinN l = Lib.join l [10]
  | [] => rfl
  | [s] => by rw [Lib.join_one]; rfl
  | s :: x :: t => by
    have ih := joinN_lib (x :: t)
    rw [Lib.join_cons] at ih ⊢
    unfold joinN
    rw [ih]
    simp [Lib.joinTail]
theorem joinN_le (l : List Ln) : (joinN l).length ≤ tot l := by
  induction l with
  | nil => simp [joinN]
  | cons s t ih =>
    cases t with
    | nil => simp [joinN, tot]
    | cons x r =>
      rw [tot_cons]
      simp only [joinN, List.length_append, List.length_cons, List.length_nil]
      omega
/-- strings.Join with line feeds between. -/
theorem pJoin_any (g : Nat) (v : Value) (l : List Ln) (w : World) (h : LnAt w g v l) (hL : tot l ≤ 1073741824) :
    Calls Tryd.prog 96 #[v, .string ⟨#[10]⟩] w fun e w' => e = .returned (.string ⟨(joinN l).toArray⟩) ∧ Fresh w w' := by
  have hlen := tot_len l
  have hjl := joinN_le l
  cases l with
  | nil =>
    obtain ⟨a, cap, off, rfl, -, -, -⟩ := h
    exact (Tryd.strings_Join_none a cap ⟨#[10]⟩ w).mono fun _ _ ⟨h1, h2⟩ => ⟨h1, by rw [h2]; exact Keeps.refl _ _⟩
  | cons s t =>
    have hlt := h.lt (by simp)
    obtain ⟨a, cap, off, rfl, hc, hm, hcell⟩ := h
    obtain ⟨rfl, hcell2⟩ := hcell (by simp)
    have hj := Tryd.strings_Join g off cap ((s :: t).map fun x => ⟨x.toArray⟩) ⟨#[10]⟩ w (fun j x hx => by
      rw [List.getElem?_map, Option.map_eq_some_iff] at hx
      obtain ⟨y, hy, rfl⟩ := hx
      exact hcell2 j y hy) hlt (by rw [List.length_map]; omega) (by rw [List.length_map]; exact hc)
    have e1 : ((s :: t).map fun x => (⟨x.toArray⟩ : ByteArray)).map (·.data.toList) = s :: t := by rw [List.map_map]; exact (List.map_congr_left (fun _ _ => rfl)).trans (List.map_id _)
    rw [e1, show (⟨#[10]⟩ : ByteArray).data.toList = [10] from rfl, ← joinN_lib, List.length_map] at hj
    exact (hj (by omega)).mono fun _ _ ⟨h1, h2⟩ => ⟨h1, Fresh.of h2⟩

set_option maxHeartbeats 2000000 in
set_option maxRecDepth 100000 in
theorem par1_any (E : EmitOK k caps R F) (C d g B2 B5 : Nat) (v : Value) (l : List Ln) (w : World) (L : List EvL) (o : Nat → Prop) (h : Fnd w C (fnV k caps) d) (hF : F w L o) (hL : tot l ≤ 1073741824) (hR : ∃ rest, L ++ txE (joinN l) true ++ rest = R)
    (h2 : w.heap[B2]? = some (.cells #[.pointer (some ⟨C, 0, none⟩)] 122 (0, 0))) (h5 : w.heap[B5]? = some (.cells #[v] 41 (0, 0))) (hv : LnAt w g v l) :
    Calls Tryd.prog 94 #[.pointer (some ⟨B2, 0, none⟩), .pointer (some ⟨B5, 0, none⟩)] w (DoOK F (fun _ => False) (fun _ _ => True) L (txE (joinN l) true) w o) := by
  have c2 : w.cell? ⟨B2, 0, none⟩ = some (.pointer (some ⟨C, 0, none⟩)) := by rw [Lib.cell_of_heap h2]; rfl
  have c5 : w.cell? ⟨B5, 0, none⟩ = some v := by rw [Lib.cell_of_heap h5]; rfl
  have hjn := fun (W : World) (hW : Fresh w W) => pJoin_any g v l W (hv.fresh hW) hL
  have htx := fun (W : World) (hW : Fresh w W) => text_any E C d ⟨(joinN l).toArray⟩ true W L o (h.fresh hW) (E.fresh hF hW) hR
  simp only [show (⟨(joinN l).toArray⟩ : ByteArray).data.toList = joinN l from rfl] at htx
  have c2k := fun (W : World) (hW : Fresh w W) => (hW.cell_some c2 (fun h => h) : W.cell? ⟨B2, 0, none⟩ = some (.pointer (some ⟨C, 0, none⟩)))
  have HJN := Lib.hid hjn
  have HTX := Lib.hid htx
  have HCK := Lib.hid c2k
  clear hjn htx c2k h2 h5 hF hR h E hv
  go_enter Tryd.func94, Tryd.ntmps94
  refine wp_last (fun a wx => a.defers = [] ∧ ∃ o1, F wx (L ++ txE (joinN l) true) o1 ∧ MvX (fun _ => False) o o1 w wx) ?_ ?_
  · go_region_with (first
      | (go_at_call 96; refine (HJN.out _ (by repeat (first | exact Keeps.refl _ _ | refine Keeps.drew ?_ | refine Keeps.drewN ?_ _))).mono ?_; rintro e w' ⟨rfl, hk1⟩; have hk2 : Fresh w w' := Keeps.after (by repeat (first | exact Keeps.refl _ _ | refine Keeps.drew ?_ | refine Keeps.drewN ?_ _)) hk1; have c2' := HCK.out _ hk2)
      | (go_at_call 95; refine (HTX.out _ (by first | assumption | exact Keeps.drew (by assumption) | exact Keeps.drewN (by assumption) _)).mono ?_; rintro e w3 ⟨rfl, o1, hF1, hm1⟩))
    all_goals exact ⟨rfl, o1, hF1, mvx_of (by first | assumption | exact Keeps.drew (by assumption) | exact Keeps.drewN (by assumption) _) hm1⟩
  · rintro a' w' ⟨hd, o1, hF1, hm1⟩
    exact ⟨hd, .tuple #[], results_none rfl _ _ _, rfl, o1, hF1, hm1, trivial⟩

set_option maxHeartbeats 4000000 in
set_option maxRecDepth 100000 in
theorem par_any (E : EmitOK k caps R F) (C d g : Nat) (v : Value) (s0 : Ln) (t : List Ln) (w : World) (L : List EvL) (o : Nat → Prop) (h : Fnd w C (fnV k caps) d) (hv : LnAt w g v (s0 :: t)) (hF : F w L o) (hC : ¬ o C) (hg : ¬ o g ∧ g ≠ C)
    (hL : tot (s0 :: t) ≤ 16777216) (hd : d ≤ 3) (hb0 : blank s0 = false) (hR : ∃ rest, L ++ leafE 0 0 (joinN (trm s0 :: (prg d t).1)) true ++ rest = R) :
    Calls Tryd.prog 74 #[.pointer (some ⟨C, 0, none⟩), v] w (StepOK F g L (leafE 0 0 (joinN (trm s0 :: (prg d t).1)) true) (prg d t).2 o w) := by
  obtain ⟨rest, hR⟩ := hR
  have hmf : ∀ (fn : Fn) (first cap : Array Value) (w : World), (Instr.makeFunc fn first cap).run Tryd.prog w = .ok (.func fn first cap) w := fun _ _ _ _ => rfl
  have hpt := prg_tot d t
  obtain ⟨LL, hLL⟩ : ∃ LL, trm s0 :: (prg d t).1 = LL := ⟨_, rfl⟩
  obtain ⟨Z, hZ⟩ : ∃ Z, (prg d t).2 = Z := ⟨_, rfl⟩
  have hpl : ParL d s0 LL Z (s0 :: t) [] := .inl ⟨rfl, t, rfl, hLL, hZ⟩
  have hLt : tot LL ≤ tot (s0 :: t) := by rw [← hLL, tot_cons, tot_cons]; have := trm_len s0; omega
  rw [hLL] at hR ⊢
  rw [hZ]
  obtain ⟨W, hW⟩ : ∃ W, (w.alloc (.cells #[.pointer (some ⟨C, 0, none⟩)] 122)).alloc (.cells #[.slice none 0 0] 41) = W := ⟨_, rfl⟩
  have hFW : Fresh w W := by rw [← hW]; exact ((Keeps.refl _ _).alloc _).alloc _
  have hz : w.heap.size + 1 < W.heap.size := by rw [← hW]; simp
  have t2 : W.heap[w.heap.size]? = some (.cells #[.pointer (some ⟨C, 0, none⟩)] 122 (0, 0)) := by
    rw [← hW, Below.heap_alloc _ _ _ (by simp)]
    exact heap_alloc_new w _
  have t5 : W.heap[w.heap.size + 1]? = some (.cells #[.slice none 0 0] 41 (0, 0)) := by
    rw [← hW]
    have := heap_alloc_new (w.alloc (.cells #[.pointer (some ⟨C, 0, none⟩)] 122)) (.cells #[.slice none 0 0] 41)
    simpa using this
  have hlt := E.lt hF
  have hCw : C < w.heap.size := World.block_lt_of_cell? w ⟨C, 0, none⟩ h.cells.1
  have hgw : g < w.heap.size := hv.lt (by simp)
  obtain ⟨a0, cap0, hvf⟩ := hv.form
  generalize hl : s0 :: t = l at *
  have HI := Lib.hid Tryd.infoStr
  have HV := Lib.hid hv
  have HF := Lib.hid hF
  have HE := Lib.hid E
  have HR := Lib.hid hR
  have HLT := Lib.hid hlt
  have H := Lib.hid h
  have HG := Lib.hid hg
  have HPL := Lib.hid hpl
  have HFW := Lib.hid hFW
  have HT2 := Lib.hid t2
  have HT5 := Lib.hid t5
  have HB0 := Lib.hid hb0
  have HVF := Lib.hid hvf
  clear hv hF E hR hlt h hLL hZ hg hpl hFW t2 t5 hpt hl hb0 hvf
  go_enter Tryd.func74, Tryd.ntmps74
  go_upto_block 0 with fail
  clear hW
  go_cut [1] (fun v wr => ∃ lv, LnAt wr g v Z ∧ wr.heap[w.heap.size + 1]? = some (.cells #[lv] 41 (0, 0)) ∧ Lns wr lv LL ∧ (∀ b, lv.ownBlock = some b → w.heap.size ≤ b) ∧ Fresh w wr ∧ wr.heap[w.heap.size]? = some (.cells #[.pointer (some ⟨C, 0, none⟩)] 122 (0, 0)))
  case first =>
    go_wp2_with fail
    go_loopw [1] (fun v wr => ∃ (cur acc : List Ln) (lv : Value), LnAt wr g v cur ∧ tot cur ≤ tot l ∧ ParL d s0 LL Z cur acc ∧ wr.heap[w.heap.size + 1]? = some (.cells #[lv] 41 (0, 0)) ∧ Lns wr lv acc ∧ (∀ b, lv.ownBlock = some b → w.heap.size ≤ b) ∧ Fresh w wr ∧ wr.heap[w.heap.size]? = some (.cells #[.pointer (some ⟨C, 0, none⟩)] 122 (0, 0))) (fun v _ => slen v)
    case atStart => exact ⟨l, [], _, HV.out.fresh HFW.out, Nat.le_refl _, HPL.out, HT5.out, Lns.nil _, (fun b h => by cases h), HFW.out, HT2.out⟩
    case round =>
      obtain ⟨cur, acc, lv, hv, hct, hp, t5, hi, ho, hFr, t2⟩ := hrel
      obtain ⟨wo, rfl⟩ : ∃ wo : World, wo = wr := ⟨_, rfl⟩
      obtain ⟨q5, c5, rfl, -, -, -⟩ := own_form hi
      have c5b : wo.cell? ⟨w.heap.size + 1, 0, none⟩ = some (.slice q5 acc.length c5) := by rw [Lib.cell_of_heap t5]; rfl
      have c2 : wo.cell? ⟨w.heap.size, 0, none⟩ = some (.pointer (some ⟨C, 0, none⟩)) := by rw [Lib.cell_of_heap t2]; rfl
      cases cur with
      | nil =>
        obtain ⟨a, cap, rfl⟩ := hv.form
        rcases hp with ⟨-, t', h0, -⟩ | ⟨-, hx, hy⟩
        · cases h0
        · have hx2 : acc = LL := by simpa [prg] using hx
          have hy2 : ([] : List Ln) = Z := hy
          subst hx2 hy2
          have HVV := Lib.hid hv
          have HII := Lib.hid hi
          have HOO := Lib.hid ho
          have HFR := Lib.hid hFr
          have HT2 := Lib.hid t2
          have HT5 := Lib.hid t5
          clear hx hy hv hi ho hFr t2 t5
          go_wp2_with fail
          refine wp_region_K 22 (fun w' => Fresh wo w') (by kernel_rfl) ?_
          have hHeld : Fresh wo wo.drew := (Keeps.refl _ _).drew
          refine K_takeD (i := 0) (v := ?_) rfl rfl (by kernel_rfl) (by kernel_rfl) (by kernel_rfl) (by kernel_rfl) (by kernel_rfl) (fun _ _ _ h => h) (Or.inl ⟨by rfl, ?_⟩) (by assumption) ?_
          rotate_left
          · (intro _ hSw; (have hS0 := hSw); first | (go_simp; done) | (go_simp; with_reducible rfl))
          try simp only [List.setIfInBounds_toArray, List.set_cons_zero, List.set_cons_succ]
          refine K_takeD (i := 1) (v := ?_) rfl rfl (by kernel_rfl) (by kernel_rfl) (by kernel_rfl) (by kernel_rfl) (by kernel_rfl) (fun _ _ _ h => h) (Or.inl ⟨by rfl, ?_⟩) (by assumption) ?_
          rotate_left
          · (intro _ hSw; (have hS0 := hSw); first | (go_simp; done) | (go_simp; with_reducible rfl))
          try simp only [List.setIfInBounds_toArray, List.set_cons_zero, List.set_cons_succ]
          refine K_takeD (i := 2) (v := ?_) rfl rfl (by kernel_rfl) (by kernel_rfl) (by kernel_rfl) (by kernel_rfl) (by kernel_rfl) (fun _ _ _ h => h) (Or.inl ⟨by rfl, ?_⟩) (by assumption) ?_
          rotate_left
          · (intro _ hSw; (have hS0 := hSw); first | (go_simp; done) | (go_simp; with_reducible rfl))
          try simp only [List.setIfInBounds_toArray, List.set_cons_zero, List.set_cons_succ]
          refine K_takeD (i := 3) (v := ?_) rfl rfl (by kernel_rfl) (by kernel_rfl) (by kernel_rfl) (by kernel_rfl) (by kernel_rfl) (fun _ _ _ h => h) (Or.inl ⟨by rfl, ?_⟩) (by assumption) ?_
          rotate_left
          · (intro _ hSw; (have hS0 := hSw); first | (go_simp; done) | (go_simp; with_reducible rfl))
          try simp only [List.setIfInBounds_toArray, List.set_cons_zero, List.set_cons_succ]
          refine K_takeD (i := 4) (v := undef) rfl rfl (by kernel_rfl) (by kernel_rfl) (by kernel_rfl) (by kernel_rfl) (by kernel_rfl) (fun _ _ _ h => h) (Or.inr ⟨by rfl, rfl⟩) (by assumption) ?_
          try simp only [List.setIfInBounds_toArray, List.set_cons_zero, List.set_cons_succ]
          refine K_takeD (i := 5) (v := undef) rfl rfl (by kernel_rfl) (by kernel_rfl) (by kernel_rfl) (by kernel_rfl) (by kernel_rfl) (fun _ _ _ h => h) (Or.inr ⟨by rfl, rfl⟩) (by assumption) ?_
          try simp only [List.setIfInBounds_toArray, List.set_cons_zero, List.set_cons_succ]
          refine K_takeD (i := 6) (v := undef) rfl rfl (by kernel_rfl) (by kernel_rfl) (by kernel_rfl) (by kernel_rfl) (by kernel_rfl) (fun _ _ _ h => h) (Or.inr ⟨by rfl, rfl⟩) (by assumption) ?_
          try simp only [List.setIfInBounds_toArray, List.set_cons_zero, List.set_cons_succ]
          refine K_takeD (i := 7) (v := undef) rfl rfl (by kernel_rfl) (by kernel_rfl) (by kernel_rfl) (by kernel_rfl) (by kernel_rfl) (fun _ _ _ h => h) (Or.inr ⟨by rfl, rfl⟩) (by assumption) ?_
          try simp only [List.setIfInBounds_toArray, List.set_cons_zero, List.set_cons_succ]
          refine K_takeD (i := 8) (v := undef) rfl rfl (by kernel_rfl) (by kernel_rfl) (by kernel_rfl) (by kernel_rfl) (by kernel_rfl) (fun _ _ _ h => h) (Or.inr ⟨by rfl, rfl⟩) (by assumption) ?_
          try simp only [List.setIfInBounds_toArray, List.set_cons_zero, List.set_cons_succ]
          refine K_takeD (i := 9) (v := ?_) rfl rfl (by kernel_rfl) (by kernel_rfl) (by kernel_rfl) (by kernel_rfl) (by kernel_rfl) (fun _ _ _ h => h) (Or.inl ⟨by rfl, ?_⟩) (by assumption) ?_
          rotate_left
          · (intro _ hSw; (have hS0 := hSw); first | (go_simp; done) | (go_simp; with_reducible rfl))
          try simp only [List.setIfInBounds_toArray, List.set_cons_zero, List.set_cons_succ]
          refine K_takeD (i := 10) (v := ?_) rfl rfl (by kernel_rfl) (by kernel_rfl) (by kernel_rfl) (by kernel_rfl) (by kernel_rfl) (fun _ _ _ h => h) (Or.inl ⟨by rfl, ?_⟩) (by assumption) ?_
          rotate_left
          · (intro _ hSw; (have hS0 := hSw); first | (go_simp; done) | (go_simp; with_reducible rfl))
          try simp only [List.setIfInBounds_toArray, List.set_cons_zero, List.set_cons_succ]
          refine K_takeD (i := 11) (v := undef) rfl rfl (by kernel_rfl) (by kernel_rfl) (by kernel_rfl) (by kernel_rfl) (by kernel_rfl) (fun _ _ _ h => h) (Or.inr ⟨by rfl, rfl⟩) (by assumption) ?_
          try simp only [List.setIfInBounds_toArray, List.set_cons_zero, List.set_cons_succ]
          refine K_takeD (i := 12) (v := undef) rfl rfl (by kernel_rfl) (by kernel_rfl) (by kernel_rfl) (by kernel_rfl) (by kernel_rfl) (fun _ _ _ h => h) (Or.inr ⟨by rfl, rfl⟩) (by assumption) ?_
          try simp only [List.setIfInBounds_toArray, List.set_cons_zero, List.set_cons_succ]
          refine K_takeD (i := 13) (v := undef) rfl rfl (by kernel_rfl) (by kernel_rfl) (by kernel_rfl) (by kernel_rfl) (by kernel_rfl) (fun _ _ _ h => h) (Or.inr ⟨by rfl, rfl⟩) (by assumption) ?_
          try simp only [List.setIfInBounds_toArray, List.set_cons_zero, List.set_cons_succ]
          refine K_takeD (i := 14) (v := undef) rfl rfl (by kernel_rfl) (by kernel_rfl) (by kernel_rfl) (by kernel_rfl) (by kernel_rfl) (fun _ _ _ h => h) (Or.inr ⟨by rfl, rfl⟩) (by assumption) ?_
          try simp only [List.setIfInBounds_toArray, List.set_cons_zero, List.set_cons_succ]
          refine K_takeD (i := 15) (v := undef) rfl rfl (by kernel_rfl) (by kernel_rfl) (by kernel_rfl) (by kernel_rfl) (by kernel_rfl) (fun _ _ _ h => h) (Or.inr ⟨by rfl, rfl⟩) (by assumption) ?_
          try simp only [List.setIfInBounds_toArray, List.set_cons_zero, List.set_cons_succ]
          refine K_takeD (i := 16) (v := undef) rfl rfl (by kernel_rfl) (by kernel_rfl) (by kernel_rfl) (by kernel_rfl) (by kernel_rfl) (fun _ _ _ h => h) (Or.inr ⟨by rfl, rfl⟩) (by assumption) ?_
          try simp only [List.setIfInBounds_toArray, List.set_cons_zero, List.set_cons_succ]
          refine K_takeD (i := 17) (v := undef) rfl rfl (by kernel_rfl) (by kernel_rfl) (by kernel_rfl) (by kernel_rfl) (by kernel_rfl) (fun _ _ _ h => h) (Or.inr ⟨by rfl, rfl⟩) (by assumption) ?_
          try simp only [List.setIfInBounds_toArray, List.set_cons_zero, List.set_cons_succ]
          refine K_takeD (i := 18) (v := undef) rfl rfl (by kernel_rfl) (by kernel_rfl) (by kernel_rfl) (by kernel_rfl) (by kernel_rfl) (fun _ _ _ h => h) (Or.inr ⟨by rfl, rfl⟩) (by assumption) ?_
          try simp only [List.setIfInBounds_toArray, List.set_cons_zero, List.set_cons_succ]
          refine K_takeD (i := 19) (v := undef) rfl rfl (by kernel_rfl) (by kernel_rfl) (by kernel_rfl) (by kernel_rfl) (by kernel_rfl) (fun _ _ _ h => h) (Or.inr ⟨by rfl, rfl⟩) (by assumption) ?_
          try simp only [List.setIfInBounds_toArray, List.set_cons_zero, List.set_cons_succ]
          refine K_takeD (i := 20) (v := undef) rfl rfl (by kernel_rfl) (by kernel_rfl) (by kernel_rfl) (by kernel_rfl) (by kernel_rfl) (fun _ _ _ h => h) (Or.inr ⟨by rfl, rfl⟩) (by assumption) ?_
          try simp only [List.setIfInBounds_toArray, List.set_cons_zero, List.set_cons_succ]
          refine K_takeD (i := 21) (v := undef) rfl rfl (by kernel_rfl) (by kernel_rfl) (by kernel_rfl) (by kernel_rfl) (by kernel_rfl) (fun _ _ _ h => h) (Or.inr ⟨by rfl, rfl⟩) (by assumption) ?_
          try simp only [List.setIfInBounds_toArray, List.set_cons_zero, List.set_cons_succ]
          refine K_last (by kernel_rfl) rfl (fun K hK => ?_)
          go_simp
          refine hK.out _ _ ?_
          clear hK K
          try simp only [Act.put, List.setIfInBounds_toArray, List.set_cons_zero, List.set_cons_succ]
          refine K_done (by kernel_rfl) ?_ _
          go_wp2
          go_meet
          exact ⟨_, HVV.out.fresh ((Keeps.refl _ _).drew), HT5.out, own_kept HII.out ((Keeps.refl (fun _ => False) _).drew) (fun _ _ h => h), HOO.out, HFR.out.drew, HT2.out⟩
      | cons s t =>
        have htc : tot (s :: t) = s.length + 1 + tot t := tot_cons s t
        obtain ⟨cap, off, rfl, h1, h2, hcell⟩ := hv.line (j := 0) (s := s) rfl
        rw [Nat.add_zero] at hcell
        obtain ⟨S, hS, hSl, hSs⟩ := mk_of s
        rw [hS] at hcell
        have hem := fun W : World => empty_any S W (by omega)
        rw [hSl] at hem
        have hwh := fun (W : World) (hW : Fresh wo W) => what_any C d (fnV k caps) S W ((H.out.fresh hFr).fresh hW) (by omega) hd
        rw [hSl] at hwh
        have hps : ParS wo w.heap.size (w.heap.size + 1) C g off (.slice q5 acc.length c5) S wo := ⟨Keeps.refl _ _, c5b, c2, hcell⟩
        have hll : ((s :: t).length : Int) = (t.length : Int) + 1 := by simp
        have hl0 : (0 : Int) < (t.length : Int) + 1 := by omega
        have hal : acc.length ≤ LL.length ∧ (acc = [] ↔ acc.length = 0) := ⟨by
          rcases hp with ⟨h0, -⟩ | ⟨-, hx, -⟩
          · rw [h0]; exact Nat.zero_le _
          · rw [← hx]; simp, by simp⟩
        have hfq := fun W : World => eqlFn (sta s d) W
        obtain ⟨kk, hkk⟩ : ∃ kk, sta s d = kk := ⟨_, rfl⟩
        rw [hkk] at hwh hfq
        obtain ⟨B, hB⟩ : ∃ B : Bool, B = (!blank s && (decide (acc.length = 0) || decide (kk ≠ 2 ∧ kk ≠ 3 ∧ kk ≠ 4 ∧ kk ≠ 5))) := ⟨_, rfl⟩
        have HEM := Lib.hid hem
        have HWH := Lib.hid hwh
        have HFQ := Lib.hid hfq
        have HPS := Lib.hid hps
        have HVV := Lib.hid hv
        have HII := Lib.hid hi
        have HOO := Lib.hid ho
        have HFR := Lib.hid hFr
        have HT2 := Lib.hid t2
        have HT5 := Lib.hid t5
        have HKK := Lib.hid hkk
        have HB := Lib.hid hB
        have HP := Lib.hid hp
        have HSL := Lib.hid hSl
        have HSS := Lib.hid hSs
        have HAL := Lib.hid hal
        have HTC := Lib.hid htc
        clear hem hwh hps hv hi ho hFr t2 t5 hkk hB hp hSl hSs hS hal htc c5b c2 hcell hll hfq
        go_upto_region 2 with fail
        go_cut [28] (fun b wx => b = .bool B ∧ Fresh wo wx)
        case first =>
          cases hb : blank s with
          | true =>
            have hB := HB.out
            rw [hb] at hB HEM
            have hB0 : B = false := hB
            subst hB0
            clear hB hb
            refine wp_region_K 22 (ParS wo w.heap.size (w.heap.size + 1) C g off (.slice q5 acc.length c5) S) (by kernel_rfl) ?_
            have hHeld := HPS.out.next ((Keeps.refl (fun _ => False) wo).drew)
            refine K_takeD (i := 0) (v := ?_) rfl rfl (by kernel_rfl) (by kernel_rfl) (by kernel_rfl) (by kernel_rfl) (by kernel_rfl) (fun _ _ _ h => h) (Or.inl ⟨by rfl, ?_⟩) (by assumption) ?_
            rotate_left
            · (intro _ hSw; (obtain ⟨hS0, hS1, hS2, hS3⟩ := hSw); first | (go_simp; done) | (go_simp; with_reducible rfl))
            try simp only [List.setIfInBounds_toArray, List.set_cons_zero, List.set_cons_succ]
            refine K_takeD (i := 1) (v := ?_) rfl rfl (by kernel_rfl) (by kernel_rfl) (by kernel_rfl) (by kernel_rfl) (by kernel_rfl) (fun _ _ _ h => h) (Or.inl ⟨by rfl, ?_⟩) (by assumption) ?_
            rotate_left
            · (intro _ hSw; (obtain ⟨hS0, hS1, hS2, hS3⟩ := hSw); first | (go_simp; done) | (go_simp; with_reducible rfl))
            try simp only [List.setIfInBounds_toArray, List.set_cons_zero, List.set_cons_succ]
            refine K_takeD (i := 2) (v := ?_) rfl rfl (by kernel_rfl) (by kernel_rfl) (by kernel_rfl) (by kernel_rfl) (by kernel_rfl) (fun _ _ _ h => h) (Or.inl ⟨by rfl, ?_⟩) (by assumption) ?_
            rotate_left
            · (intro _ hSw; (obtain ⟨hS0, hS1, hS2, hS3⟩ := hSw); first | (go_simp; done) | (go_simp; with_reducible rfl))
            try simp only [List.setIfInBounds_toArray, List.set_cons_zero, List.set_cons_succ]
            refine K_takeD (i := 3) (v := ?_) rfl rfl (by kernel_rfl) (by kernel_rfl) (by kernel_rfl) (by kernel_rfl) (by kernel_rfl) (fun _ _ _ h => h) (Or.inl ⟨by rfl, ?_⟩) (by assumption) ?_
            rotate_left
            · (intro _ hSw; (obtain ⟨hS0, hS1, hS2, hS3⟩ := hSw); first | (go_simp; done) | (go_simp; with_reducible rfl))
            try simp only [List.setIfInBounds_toArray, List.set_cons_zero, List.set_cons_succ]
            refine K_takeD (i := 4) (v := ?_) rfl rfl (by kernel_rfl) (by kernel_rfl) (by kernel_rfl) (by kernel_rfl) (by kernel_rfl) (fun _ _ _ h => h) (Or.inl ⟨by rfl, ?_⟩) (by assumption) ?_
            rotate_left
            · (intro _ hSw; (obtain ⟨hS0, hS1, hS2, hS3⟩ := hSw); first | (go_simp; done) | (go_simp; with_reducible rfl))
            try simp only [List.setIfInBounds_toArray, List.set_cons_zero, List.set_cons_succ]
            refine K_takeD (i := 5) (v := ?_) rfl rfl (by kernel_rfl) (by kernel_rfl) (by kernel_rfl) (by kernel_rfl) (by kernel_rfl) (fun _ _ _ h => h) (Or.inl ⟨by rfl, ?_⟩) (by assumption) ?_
            rotate_left
            · (intro _ hSw; (obtain ⟨hS0, hS1, hS2, hS3⟩ := hSw); first | (go_simp; done) | (go_simp; with_reducible rfl))
            try simp only [List.setIfInBounds_toArray, List.set_cons_zero, List.set_cons_succ]
            refine K_takeD (i := 6) (v := ?_) rfl rfl (by kernel_rfl) (by kernel_rfl) (by kernel_rfl) (by kernel_rfl) (by kernel_rfl) (fun _ _ _ h => h) (Or.inl ⟨by rfl, ?_⟩) (by assumption) ?_
            rotate_left
            · (intro _ hSw; (obtain ⟨hS0, hS1, hS2, hS3⟩ := hSw); first | (go_simp; done) | (go_simp; with_reducible rfl))
            try simp only [List.setIfInBounds_toArray, List.set_cons_zero, List.set_cons_succ]
            refine K_one (i := 7) (by kernel_rfl) rfl (fun K hK => ?_)
            go_simp
            refine (HEM.out _).mono ?_
            rintro e w5 ⟨rfl, hk5⟩
            refine hK.out _ _ (hHeld.next hk5) (fun hHeld2 => ?_)
            clear hK K hHeld
            try simp only [Act.put, List.setIfInBounds_toArray, List.set_cons_zero, List.set_cons_succ]
            have HK5 := Lib.hid (Fresh.drewl hk5)
            clear hk5
            refine K_takeD (i := 8) (v := ?_) rfl rfl (by kernel_rfl) (by kernel_rfl) (by kernel_rfl) (by kernel_rfl) (by kernel_rfl) (fun _ _ _ h => h) (Or.inl ⟨by rfl, ?_⟩) (by assumption) ?_
            rotate_left
            · (intro _ hSw; (obtain ⟨hS0, hS1, hS2, hS3⟩ := hSw); first | (go_simp; done) | (go_simp; with_reducible rfl))
            try simp only [List.setIfInBounds_toArray, List.set_cons_zero, List.set_cons_succ]
            refine K_takeD (i := 9) (v := ?_) rfl rfl (by kernel_rfl) (by kernel_rfl) (by kernel_rfl) (by kernel_rfl) (by kernel_rfl) (fun _ _ _ h => h) (Or.inl ⟨by rfl, ?_⟩) (by assumption) ?_
            rotate_left
            · (intro _ hSw; (obtain ⟨hS0, hS1, hS2, hS3⟩ := hSw); first | (go_simp; done) | (go_simp; with_reducible rfl))
            try simp only [List.setIfInBounds_toArray, List.set_cons_zero, List.set_cons_succ]
            refine K_takeD (i := 10) (v := ?_) rfl rfl (by kernel_rfl) (by kernel_rfl) (by kernel_rfl) (by kernel_rfl) (by kernel_rfl) (fun _ _ _ h => h) (Or.inl ⟨by rfl, ?_⟩) (by assumption) ?_
            rotate_left
            · (intro _ hSw; (obtain ⟨hS0, hS1, hS2, hS3⟩ := hSw); first | (go_simp; done) | (go_simp; with_reducible rfl))
            try simp only [List.setIfInBounds_toArray, List.set_cons_zero, List.set_cons_succ]
            refine K_takeD (i := 11) (v := undef) rfl rfl (by kernel_rfl) (by kernel_rfl) (by kernel_rfl) (by kernel_rfl) (by kernel_rfl) (fun _ _ _ h => h) (Or.inr ⟨by rfl, rfl⟩) (by assumption) ?_
            try simp only [List.setIfInBounds_toArray, List.set_cons_zero, List.set_cons_succ]
            refine K_takeD (i := 12) (v := undef) rfl rfl (by kernel_rfl) (by kernel_rfl) (by kernel_rfl) (by kernel_rfl) (by kernel_rfl) (fun _ _ _ h => h) (Or.inr ⟨by rfl, rfl⟩) (by assumption) ?_
            try simp only [List.setIfInBounds_toArray, List.set_cons_zero, List.set_cons_succ]
            refine K_takeD (i := 13) (v := undef) rfl rfl (by kernel_rfl) (by kernel_rfl) (by kernel_rfl) (by kernel_rfl) (by kernel_rfl) (fun _ _ _ h => h) (Or.inr ⟨by rfl, rfl⟩) (by assumption) ?_
            try simp only [List.setIfInBounds_toArray, List.set_cons_zero, List.set_cons_succ]
            refine K_takeD (i := 14) (v := undef) rfl rfl (by kernel_rfl) (by kernel_rfl) (by kernel_rfl) (by kernel_rfl) (by kernel_rfl) (fun _ _ _ h => h) (Or.inr ⟨by rfl, rfl⟩) (by assumption) ?_
            try simp only [List.setIfInBounds_toArray, List.set_cons_zero, List.set_cons_succ]
            refine K_takeD (i := 15) (v := undef) rfl rfl (by kernel_rfl) (by kernel_rfl) (by kernel_rfl) (by kernel_rfl) (by kernel_rfl) (fun _ _ _ h => h) (Or.inr ⟨by rfl, rfl⟩) (by assumption) ?_
            try simp only [List.setIfInBounds_toArray, List.set_cons_zero, List.set_cons_succ]
            refine K_takeD (i := 16) (v := undef) rfl rfl (by kernel_rfl) (by kernel_rfl) (by kernel_rfl) (by kernel_rfl) (by kernel_rfl) (fun _ _ _ h => h) (Or.inr ⟨by rfl, rfl⟩) (by assumption) ?_
            try simp only [List.setIfInBounds_toArray, List.set_cons_zero, List.set_cons_succ]
            refine K_takeD (i := 17) (v := undef) rfl rfl (by kernel_rfl) (by kernel_rfl) (by kernel_rfl) (by kernel_rfl) (by kernel_rfl) (fun _ _ _ h => h) (Or.inr ⟨by rfl, rfl⟩) (by assumption) ?_
            try simp only [List.setIfInBounds_toArray, List.set_cons_zero, List.set_cons_succ]
            refine K_takeD (i := 18) (v := undef) rfl rfl (by kernel_rfl) (by kernel_rfl) (by kernel_rfl) (by kernel_rfl) (by kernel_rfl) (fun _ _ _ h => h) (Or.inr ⟨by rfl, rfl⟩) (by assumption) ?_
            try simp only [List.setIfInBounds_toArray, List.set_cons_zero, List.set_cons_succ]
            refine K_takeD (i := 19) (v := undef) rfl rfl (by kernel_rfl) (by kernel_rfl) (by kernel_rfl) (by kernel_rfl) (by kernel_rfl) (fun _ _ _ h => h) (Or.inr ⟨by rfl, rfl⟩) (by assumption) ?_
            try simp only [List.setIfInBounds_toArray, List.set_cons_zero, List.set_cons_succ]
            refine K_takeD (i := 20) (v := undef) rfl rfl (by kernel_rfl) (by kernel_rfl) (by kernel_rfl) (by kernel_rfl) (by kernel_rfl) (fun _ _ _ h => h) (Or.inr ⟨by rfl, rfl⟩) (by assumption) ?_
            try simp only [List.setIfInBounds_toArray, List.set_cons_zero, List.set_cons_succ]
            refine K_takeD (i := 21) (v := undef) rfl rfl (by kernel_rfl) (by kernel_rfl) (by kernel_rfl) (by kernel_rfl) (by kernel_rfl) (fun _ _ _ h => h) (Or.inr ⟨by rfl, rfl⟩) (by assumption) ?_
            try simp only [List.setIfInBounds_toArray, List.set_cons_zero, List.set_cons_succ]
            refine K_last (by kernel_rfl) rfl (fun K hK => ?_)
            go_simp
            refine hK.out _ _ ?_
            clear hK K
            try simp only [Act.put, List.setIfInBounds_toArray, List.set_cons_zero, List.set_cons_succ]
            refine K_done (by kernel_rfl) ?_ _
            go_wp2_with fail
            go_meet
            exact ⟨rfl, HK5.out⟩
          | false =>
            have hB := HB.out
            rw [hb] at hB HEM
            by_cases ha : acc.length = 0
            · have hB0 : B = true := by rw [hB, decide_eq_true ha]; rfl
              subst hB0
              have e0 : ((acc.length : Int) == 0) = true := by rw [ha]; rfl
              clear hB hb ha
              refine wp_region_K 22 (ParS wo w.heap.size (w.heap.size + 1) C g off (.slice q5 acc.length c5) S) (by kernel_rfl) ?_
              have hHeld := HPS.out.next ((Keeps.refl (fun _ => False) wo).drew)
              refine K_takeD (i := 0) (v := ?_) rfl rfl (by kernel_rfl) (by kernel_rfl) (by kernel_rfl) (by kernel_rfl) (by kernel_rfl) (fun _ _ _ h => h) (Or.inl ⟨by rfl, ?_⟩) (by assumption) ?_
              rotate_left
              · (intro _ hSw; (obtain ⟨hS0, hS1, hS2, hS3⟩ := hSw); first | (go_simp; done) | (go_simp; with_reducible rfl))
              try simp only [List.setIfInBounds_toArray, List.set_cons_zero, List.set_cons_succ]
              refine K_takeD (i := 1) (v := ?_) rfl rfl (by kernel_rfl) (by kernel_rfl) (by kernel_rfl) (by kernel_rfl) (by kernel_rfl) (fun _ _ _ h => h) (Or.inl ⟨by rfl, ?_⟩) (by assumption) ?_
              rotate_left
              · (intro _ hSw; (obtain ⟨hS0, hS1, hS2, hS3⟩ := hSw); first | (go_simp; done) | (go_simp; with_reducible rfl))
              try simp only [List.setIfInBounds_toArray, List.set_cons_zero, List.set_cons_succ]
              refine K_takeD (i := 2) (v := ?_) rfl rfl (by kernel_rfl) (by kernel_rfl) (by kernel_rfl) (by kernel_rfl) (by kernel_rfl) (fun _ _ _ h => h) (Or.inl ⟨by rfl, ?_⟩) (by assumption) ?_
              rotate_left
              · (intro _ hSw; (obtain ⟨hS0, hS1, hS2, hS3⟩ := hSw); first | (go_simp; done) | (go_simp; with_reducible rfl))
              try simp only [List.setIfInBounds_toArray, List.set_cons_zero, List.set_cons_succ]
              refine K_takeD (i := 3) (v := ?_) rfl rfl (by kernel_rfl) (by kernel_rfl) (by kernel_rfl) (by kernel_rfl) (by kernel_rfl) (fun _ _ _ h => h) (Or.inl ⟨by rfl, ?_⟩) (by assumption) ?_
              rotate_left
              · (intro _ hSw; (obtain ⟨hS0, hS1, hS2, hS3⟩ := hSw); first | (go_simp; done) | (go_simp; with_reducible rfl))
              try simp only [List.setIfInBounds_toArray, List.set_cons_zero, List.set_cons_succ]
              refine K_takeD (i := 4) (v := ?_) rfl rfl (by kernel_rfl) (by kernel_rfl) (by kernel_rfl) (by kernel_rfl) (by kernel_rfl) (fun _ _ _ h => h) (Or.inl ⟨by rfl, ?_⟩) (by assumption) ?_
              rotate_left
              · (intro _ hSw; (obtain ⟨hS0, hS1, hS2, hS3⟩ := hSw); first | (go_simp; done) | (go_simp; with_reducible rfl))
              try simp only [List.setIfInBounds_toArray, List.set_cons_zero, List.set_cons_succ]
              refine K_takeD (i := 5) (v := ?_) rfl rfl (by kernel_rfl) (by kernel_rfl) (by kernel_rfl) (by kernel_rfl) (by kernel_rfl) (fun _ _ _ h => h) (Or.inl ⟨by rfl, ?_⟩) (by assumption) ?_
              rotate_left
              · (intro _ hSw; (obtain ⟨hS0, hS1, hS2, hS3⟩ := hSw); first | (go_simp; done) | (go_simp; with_reducible rfl))
              try simp only [List.setIfInBounds_toArray, List.set_cons_zero, List.set_cons_succ]
              refine K_takeD (i := 6) (v := ?_) rfl rfl (by kernel_rfl) (by kernel_rfl) (by kernel_rfl) (by kernel_rfl) (by kernel_rfl) (fun _ _ _ h => h) (Or.inl ⟨by rfl, ?_⟩) (by assumption) ?_
              rotate_left
              · (intro _ hSw; (obtain ⟨hS0, hS1, hS2, hS3⟩ := hSw); first | (go_simp; done) | (go_simp; with_reducible rfl))
              try simp only [List.setIfInBounds_toArray, List.set_cons_zero, List.set_cons_succ]
              refine K_one (i := 7) (by kernel_rfl) rfl (fun K hK => ?_)
              go_simp
              refine (HEM.out _).mono ?_
              rintro e w5 ⟨rfl, hk5⟩
              refine hK.out _ _ (hHeld.next hk5) (fun hHeld2 => ?_)
              clear hK K hHeld
              try simp only [Act.put, List.setIfInBounds_toArray, List.set_cons_zero, List.set_cons_succ]
              have HK5 := Lib.hid (Fresh.drewl hk5)
              clear hk5
              refine K_takeD (i := 8) (v := ?_) rfl rfl (by kernel_rfl) (by kernel_rfl) (by kernel_rfl) (by kernel_rfl) (by kernel_rfl) (fun _ _ _ h => h) (Or.inl ⟨by rfl, ?_⟩) (by assumption) ?_
              rotate_left
              · (intro _ hSw; (obtain ⟨hS0, hS1, hS2, hS3⟩ := hSw); first | (go_simp; done) | (go_simp; with_reducible rfl))
              try simp only [List.setIfInBounds_toArray, List.set_cons_zero, List.set_cons_succ]
              refine K_takeD (i := 9) (v := ?_) rfl rfl (by kernel_rfl) (by kernel_rfl) (by kernel_rfl) (by kernel_rfl) (by kernel_rfl) (fun _ _ _ h => h) (Or.inl ⟨by rfl, ?_⟩) (by assumption) ?_
              rotate_left
              · (intro _ hSw; (obtain ⟨hS0, hS1, hS2, hS3⟩ := hSw); first | (go_simp; done) | (go_simp; with_reducible rfl))
              try simp only [List.setIfInBounds_toArray, List.set_cons_zero, List.set_cons_succ]
              refine K_takeD (i := 10) (v := ?_) rfl rfl (by kernel_rfl) (by kernel_rfl) (by kernel_rfl) (by kernel_rfl) (by kernel_rfl) (fun _ _ _ h => h) (Or.inl ⟨by rfl, ?_⟩) (by assumption) ?_
              rotate_left
              · (intro _ hSw; (obtain ⟨hS0, hS1, hS2, hS3⟩ := hSw); first | (go_simp; done) | (go_simp; with_reducible rfl))
              try simp only [List.setIfInBounds_toArray, List.set_cons_zero, List.set_cons_succ]
              refine K_takeD (i := 11) (v := ?_) rfl rfl (by kernel_rfl) (by kernel_rfl) (by kernel_rfl) (by kernel_rfl) (by kernel_rfl) (fun _ _ _ h => h) (Or.inl ⟨by rfl, ?_⟩) (by assumption) ?_
              rotate_left
              · (intro _ hSw; (obtain ⟨hS0, hS1, hS2, hS3⟩ := hSw); first | (go_simp; done) | (go_simp; with_reducible rfl))
              try simp only [List.setIfInBounds_toArray, List.set_cons_zero, List.set_cons_succ]
              refine K_takeD (i := 12) (v := ?_) rfl rfl (by kernel_rfl) (by kernel_rfl) (by kernel_rfl) (by kernel_rfl) (by kernel_rfl) (fun _ _ _ h => h) (Or.inl ⟨by rfl, ?_⟩) (by assumption) ?_
              rotate_left
              · (intro _ hSw; (obtain ⟨hS0, hS1, hS2, hS3⟩ := hSw); first | (go_simp; done) | (go_simp; with_reducible rfl))
              try simp only [List.setIfInBounds_toArray, List.set_cons_zero, List.set_cons_succ]
              refine K_takeD (i := 13) (v := ?_) rfl rfl (by kernel_rfl) (by kernel_rfl) (by kernel_rfl) (by kernel_rfl) (by kernel_rfl) (fun _ _ _ h => h) (Or.inl ⟨by rfl, ?_⟩) (by assumption) ?_
              rotate_left
              · (intro _ hSw; (obtain ⟨hS0, hS1, hS2, hS3⟩ := hSw); first | (go_simp; done) | (go_simp; with_reducible rfl))
              try simp only [List.setIfInBounds_toArray, List.set_cons_zero, List.set_cons_succ]
              refine K_takeD (i := 14) (v := ?_) rfl rfl (by kernel_rfl) (by kernel_rfl) (by kernel_rfl) (by kernel_rfl) (by kernel_rfl) (fun _ _ _ h => h) (Or.inl ⟨by rfl, ?_⟩) (by assumption) ?_
              rotate_left
              · (intro _ hSw; (obtain ⟨hS0, hS1, hS2, hS3⟩ := hSw); first | (go_simp; done) | (go_simp; with_reducible rfl))
              try simp only [List.setIfInBounds_toArray, List.set_cons_zero, List.set_cons_succ]
              refine K_takeD (i := 15) (v := undef) rfl rfl (by kernel_rfl) (by kernel_rfl) (by kernel_rfl) (by kernel_rfl) (by kernel_rfl) (fun _ _ _ h => h) (Or.inr ⟨by rfl, rfl⟩) (by assumption) ?_
              try simp only [List.setIfInBounds_toArray, List.set_cons_zero, List.set_cons_succ]
              refine K_takeD (i := 16) (v := undef) rfl rfl (by kernel_rfl) (by kernel_rfl) (by kernel_rfl) (by kernel_rfl) (by kernel_rfl) (fun _ _ _ h => h) (Or.inr ⟨by rfl, rfl⟩) (by assumption) ?_
              try simp only [List.setIfInBounds_toArray, List.set_cons_zero, List.set_cons_succ]
              refine K_takeD (i := 17) (v := undef) rfl rfl (by kernel_rfl) (by kernel_rfl) (by kernel_rfl) (by kernel_rfl) (by kernel_rfl) (fun _ _ _ h => h) (Or.inr ⟨by rfl, rfl⟩) (by assumption) ?_
              try simp only [List.setIfInBounds_toArray, List.set_cons_zero, List.set_cons_succ]
              refine K_takeD (i := 18) (v := undef) rfl rfl (by kernel_rfl) (by kernel_rfl) (by kernel_rfl) (by kernel_rfl) (by kernel_rfl) (fun _ _ _ h => h) (Or.inr ⟨by rfl, rfl⟩) (by assumption) ?_
              try simp only [List.setIfInBounds_toArray, List.set_cons_zero, List.set_cons_succ]
              refine K_takeD (i := 19) (v := undef) rfl rfl (by kernel_rfl) (by kernel_rfl) (by kernel_rfl) (by kernel_rfl) (by kernel_rfl) (fun _ _ _ h => h) (Or.inr ⟨by rfl, rfl⟩) (by assumption) ?_
              try simp only [List.setIfInBounds_toArray, List.set_cons_zero, List.set_cons_succ]
              refine K_takeD (i := 20) (v := undef) rfl rfl (by kernel_rfl) (by kernel_rfl) (by kernel_rfl) (by kernel_rfl) (by kernel_rfl) (fun _ _ _ h => h) (Or.inr ⟨by rfl, rfl⟩) (by assumption) ?_
              try simp only [List.setIfInBounds_toArray, List.set_cons_zero, List.set_cons_succ]
              refine K_takeD (i := 21) (v := ?_) rfl rfl (by kernel_rfl) (by kernel_rfl) (by kernel_rfl) (by kernel_rfl) (by kernel_rfl) (fun _ _ _ h => h) (Or.inl ⟨by rfl, ?_⟩) (by assumption) ?_
              rotate_left
              · (intro _ hSw; (obtain ⟨hS0, hS1, hS2, hS3⟩ := hSw); first | (go_simp; done) | (go_simp; with_reducible rfl))
              try simp only [List.setIfInBounds_toArray, List.set_cons_zero, List.set_cons_succ]
              refine K_last (by kernel_rfl) rfl (fun K hK => ?_)
              go_simp
              refine hK.out _ _ ?_
              clear hK K
              try simp only [Act.put, List.setIfInBounds_toArray, List.set_cons_zero, List.set_cons_succ]
              refine K_done (by kernel_rfl) ?_ _
              go_wp2_with fail
              go_meet
              exact ⟨rfl, HK5.out⟩
            · have hB0 : B = decide (kk ≠ 2 ∧ kk ≠ 3 ∧ kk ≠ 4 ∧ kk ≠ 5) := by rw [hB, decide_eq_false ha]; rfl
              have e0 : ((acc.length : Int) == 0) = false := by rw [beq_eq_false_iff_ne]; omega
              rw [← hB0] at HFQ
              clear hB hb ha hB0
              refine wp_region_K 22 (ParS wo w.heap.size (w.heap.size + 1) C g off (.slice q5 acc.length c5) S) (by kernel_rfl) ?_
              have hHeld := HPS.out.next ((Keeps.refl (fun _ => False) wo).drew)
              refine K_takeD (i := 0) (v := ?_) rfl rfl (by kernel_rfl) (by kernel_rfl) (by kernel_rfl) (by kernel_rfl) (by kernel_rfl) (fun _ _ _ h => h) (Or.inl ⟨by rfl, ?_⟩) (by assumption) ?_
              rotate_left
              · (intro _ hSw; (obtain ⟨hS0, hS1, hS2, hS3⟩ := hSw); first | (go_simp; done) | (go_simp; with_reducible rfl))
              try simp only [List.setIfInBounds_toArray, List.set_cons_zero, List.set_cons_succ]
              refine K_takeD (i := 1) (v := ?_) rfl rfl (by kernel_rfl) (by kernel_rfl) (by kernel_rfl) (by kernel_rfl) (by kernel_rfl) (fun _ _ _ h => h) (Or.inl ⟨by rfl, ?_⟩) (by assumption) ?_
              rotate_left
              · (intro _ hSw; (obtain ⟨hS0, hS1, hS2, hS3⟩ := hSw); first | (go_simp; done) | (go_simp; with_reducible rfl))
              try simp only [List.setIfInBounds_toArray, List.set_cons_zero, List.set_cons_succ]
              refine K_takeD (i := 2) (v := ?_) rfl rfl (by kernel_rfl) (by kernel_rfl) (by kernel_rfl) (by kernel_rfl) (by kernel_rfl) (fun _ _ _ h => h) (Or.inl ⟨by rfl, ?_⟩) (by assumption) ?_
              rotate_left
              · (intro _ hSw; (obtain ⟨hS0, hS1, hS2, hS3⟩ := hSw); first | (go_simp; done) | (go_simp; with_reducible rfl))
              try simp only [List.setIfInBounds_toArray, List.set_cons_zero, List.set_cons_succ]
              refine K_takeD (i := 3) (v := ?_) rfl rfl (by kernel_rfl) (by kernel_rfl) (by kernel_rfl) (by kernel_rfl) (by kernel_rfl) (fun _ _ _ h => h) (Or.inl ⟨by rfl, ?_⟩) (by assumption) ?_
              rotate_left
              · (intro _ hSw; (obtain ⟨hS0, hS1, hS2, hS3⟩ := hSw); first | (go_simp; done) | (go_simp; with_reducible rfl))
              try simp only [List.setIfInBounds_toArray, List.set_cons_zero, List.set_cons_succ]
              refine K_takeD (i := 4) (v := ?_) rfl rfl (by kernel_rfl) (by kernel_rfl) (by kernel_rfl) (by kernel_rfl) (by kernel_rfl) (fun _ _ _ h => h) (Or.inl ⟨by rfl, ?_⟩) (by assumption) ?_
              rotate_left
              · (intro _ hSw; (obtain ⟨hS0, hS1, hS2, hS3⟩ := hSw); first | (go_simp; done) | (go_simp; with_reducible rfl))
              try simp only [List.setIfInBounds_toArray, List.set_cons_zero, List.set_cons_succ]
              refine K_takeD (i := 5) (v := ?_) rfl rfl (by kernel_rfl) (by kernel_rfl) (by kernel_rfl) (by kernel_rfl) (by kernel_rfl) (fun _ _ _ h => h) (Or.inl ⟨by rfl, ?_⟩) (by assumption) ?_
              rotate_left
              · (intro _ hSw; (obtain ⟨hS0, hS1, hS2, hS3⟩ := hSw); first | (go_simp; done) | (go_simp; with_reducible rfl))
              try simp only [List.setIfInBounds_toArray, List.set_cons_zero, List.set_cons_succ]
              refine K_takeD (i := 6) (v := ?_) rfl rfl (by kernel_rfl) (by kernel_rfl) (by kernel_rfl) (by kernel_rfl) (by kernel_rfl) (fun _ _ _ h => h) (Or.inl ⟨by rfl, ?_⟩) (by assumption) ?_
              rotate_left
              · (intro _ hSw; (obtain ⟨hS0, hS1, hS2, hS3⟩ := hSw); first | (go_simp; done) | (go_simp; with_reducible rfl))
              try simp only [List.setIfInBounds_toArray, List.set_cons_zero, List.set_cons_succ]
              refine K_one (i := 7) (by kernel_rfl) rfl (fun K hK => ?_)
              go_simp
              refine (HEM.out _).mono ?_
              rintro e w5 ⟨rfl, hk5⟩
              refine hK.out _ _ (hHeld.next hk5) (fun hHeld2 => ?_)
              clear hK K hHeld
              try simp only [Act.put, List.setIfInBounds_toArray, List.set_cons_zero, List.set_cons_succ]
              have HK5 := Lib.hid (Fresh.drewl hk5)
              clear hk5
              refine K_takeD (i := 8) (v := ?_) rfl rfl (by kernel_rfl) (by kernel_rfl) (by kernel_rfl) (by kernel_rfl) (by kernel_rfl) (fun _ _ _ h => h) (Or.inl ⟨by rfl, ?_⟩) (by assumption) ?_
              rotate_left
              · (intro _ hSw; (obtain ⟨hS0, hS1, hS2, hS3⟩ := hSw); first | (go_simp; done) | (go_simp; with_reducible rfl))
              try simp only [List.setIfInBounds_toArray, List.set_cons_zero, List.set_cons_succ]
              refine K_takeD (i := 9) (v := ?_) rfl rfl (by kernel_rfl) (by kernel_rfl) (by kernel_rfl) (by kernel_rfl) (by kernel_rfl) (fun _ _ _ h => h) (Or.inl ⟨by rfl, ?_⟩) (by assumption) ?_
              rotate_left
              · (intro _ hSw; (obtain ⟨hS0, hS1, hS2, hS3⟩ := hSw); first | (go_simp; done) | (go_simp; with_reducible rfl))
              try simp only [List.setIfInBounds_toArray, List.set_cons_zero, List.set_cons_succ]
              refine K_takeD (i := 10) (v := ?_) rfl rfl (by kernel_rfl) (by kernel_rfl) (by kernel_rfl) (by kernel_rfl) (by kernel_rfl) (fun _ _ _ h => h) (Or.inl ⟨by rfl, ?_⟩) (by assumption) ?_
              rotate_left
              · (intro _ hSw; (obtain ⟨hS0, hS1, hS2, hS3⟩ := hSw); first | (go_simp; done) | (go_simp; with_reducible rfl))
              try simp only [List.setIfInBounds_toArray, List.set_cons_zero, List.set_cons_succ]
              refine K_takeD (i := 11) (v := ?_) rfl rfl (by kernel_rfl) (by kernel_rfl) (by kernel_rfl) (by kernel_rfl) (by kernel_rfl) (fun _ _ _ h => h) (Or.inl ⟨by rfl, ?_⟩) (by assumption) ?_
              rotate_left
              · (intro _ hSw; (obtain ⟨hS0, hS1, hS2, hS3⟩ := hSw); first | (go_simp; done) | (go_simp; with_reducible rfl))
              try simp only [List.setIfInBounds_toArray, List.set_cons_zero, List.set_cons_succ]
              refine K_takeD (i := 12) (v := ?_) rfl rfl (by kernel_rfl) (by kernel_rfl) (by kernel_rfl) (by kernel_rfl) (by kernel_rfl) (fun _ _ _ h => h) (Or.inl ⟨by rfl, ?_⟩) (by assumption) ?_
              rotate_left
              · (intro _ hSw; (obtain ⟨hS0, hS1, hS2, hS3⟩ := hSw); first | (go_simp; done) | (go_simp; with_reducible rfl))
              try simp only [List.setIfInBounds_toArray, List.set_cons_zero, List.set_cons_succ]
              refine K_takeD (i := 13) (v := ?_) rfl rfl (by kernel_rfl) (by kernel_rfl) (by kernel_rfl) (by kernel_rfl) (by kernel_rfl) (fun _ _ _ h => h) (Or.inl ⟨by rfl, ?_⟩) (by assumption) ?_
              rotate_left
              · (intro _ hSw; (obtain ⟨hS0, hS1, hS2, hS3⟩ := hSw); first | (go_simp; done) | (go_simp; with_reducible rfl))
              try simp only [List.setIfInBounds_toArray, List.set_cons_zero, List.set_cons_succ]
              refine K_takeD (i := 14) (v := ?_) rfl rfl (by kernel_rfl) (by kernel_rfl) (by kernel_rfl) (by kernel_rfl) (by kernel_rfl) (fun _ _ _ h => h) (Or.inl ⟨by rfl, ?_⟩) (by assumption) ?_
              rotate_left
              · (intro _ hSw; (obtain ⟨hS0, hS1, hS2, hS3⟩ := hSw); first | (go_simp; done) | (go_simp; with_reducible rfl))
              try simp only [List.setIfInBounds_toArray, List.set_cons_zero, List.set_cons_succ]
              refine K_takeD (i := 15) (v := ?_) rfl rfl (by kernel_rfl) (by kernel_rfl) (by kernel_rfl) (by kernel_rfl) (by kernel_rfl) (fun _ _ _ h => h) (Or.inl ⟨by rfl, ?_⟩) (by assumption) ?_
              rotate_left
              · (intro _ hSw; (obtain ⟨hS0, hS1, hS2, hS3⟩ := hSw); first | (go_simp; done) | (go_simp; with_reducible rfl))
              try simp only [List.setIfInBounds_toArray, List.set_cons_zero, List.set_cons_succ]
              refine K_takeD (i := 16) (v := ?_) rfl rfl (by kernel_rfl) (by kernel_rfl) (by kernel_rfl) (by kernel_rfl) (by kernel_rfl) (fun _ _ _ h => h) (Or.inl ⟨by rfl, ?_⟩) (by assumption) ?_
              rotate_left
              · (intro _ hSw; (obtain ⟨hS0, hS1, hS2, hS3⟩ := hSw); first | (go_simp; done) | (go_simp; with_reducible rfl))
              try simp only [List.setIfInBounds_toArray, List.set_cons_zero, List.set_cons_succ]
              refine K_takeD (i := 17) (v := ?_) rfl rfl (by kernel_rfl) (by kernel_rfl) (by kernel_rfl) (by kernel_rfl) (by kernel_rfl) (fun _ _ _ h => h) (Or.inl ⟨by rfl, ?_⟩) (by assumption) ?_
              rotate_left
              · (intro _ hSw; (obtain ⟨hS0, hS1, hS2, hS3⟩ := hSw); first | (go_simp; done) | (go_simp; with_reducible rfl))
              try simp only [List.setIfInBounds_toArray, List.set_cons_zero, List.set_cons_succ]
              refine K_takeD (i := 18) (v := ?_) rfl rfl (by kernel_rfl) (by kernel_rfl) (by kernel_rfl) (by kernel_rfl) (by kernel_rfl) (fun _ _ _ h => h) (Or.inl ⟨by rfl, ?_⟩) (by assumption) ?_
              rotate_left
              · (intro _ hSw; (obtain ⟨hS0, hS1, hS2, hS3⟩ := hSw); first | (go_simp; done) | (go_simp; with_reducible rfl))
              try simp only [List.setIfInBounds_toArray, List.set_cons_zero, List.set_cons_succ]
              refine K_one (i := 19) (by kernel_rfl) rfl (fun K hK => ?_)
              go_simp
              refine (HWH.out _ HK5.out).mono ?_
              rintro e w6 ⟨rfl, hk6⟩
              refine hK.out _ _ (hHeld2.next hk6) (fun hHeld3 => ?_)
              clear hK K hHeld2
              try simp only [Act.put, List.setIfInBounds_toArray, List.set_cons_zero, List.set_cons_succ]
              have HK6 := Lib.hid (HK5.out.tr hk6)
              have hfq := HFQ.out
              have hge := fun (n : Nat) (W : World) => eqGFn kk n W
              clear hk6
              refine K_takeD (i := 20) (v := ?_) rfl rfl (by kernel_rfl) (by kernel_rfl) (by kernel_rfl) (by kernel_rfl) (by kernel_rfl) (fun _ _ _ h => h) (Or.inl ⟨by rfl, ?_⟩) (by assumption) ?_
              rotate_left
              · (intro _ hSw; (obtain ⟨hS0, hS1, hS2, hS3⟩ := hSw); first | (go_simp; done) | (go_simp; with_reducible rfl))
              try simp only [List.setIfInBounds_toArray, List.set_cons_zero, List.set_cons_succ]
              refine K_takeD (i := 21) (v := ?_) rfl rfl (by kernel_rfl) (by kernel_rfl) (by kernel_rfl) (by kernel_rfl) (by kernel_rfl) (fun _ _ _ h => h) (Or.inl ⟨by rfl, ?_⟩) (by assumption) ?_
              rotate_left
              · (intro _ hSw; (obtain ⟨hS0, hS1, hS2, hS3⟩ := hSw); first | (go_simp; done) | (go_simp; with_reducible rfl))
              try simp only [List.setIfInBounds_toArray, List.set_cons_zero, List.set_cons_succ]
              refine K_last (by kernel_rfl) rfl (fun K hK => ?_)
              go_simp
              refine hK.out _ _ ?_
              clear hK K
              try simp only [Act.put, List.setIfInBounds_toArray, List.set_cons_zero, List.set_cons_succ]
              refine K_done (by kernel_rfl) ?_ _
              go_wp2_with fail
              go_meet
              exact ⟨rfl, HK6.out⟩
        case rest =>
          obtain ⟨rfl, hFc⟩ := hcut
          have hst := HP.out.step HB0.out HKK.out HB.out
          cases B with
          | false =>
            obtain ⟨hx2, hy2⟩ := hst.2 rfl
            have HX := Lib.hid hx2
            have HY := Lib.hid hy2
            have HFC := Lib.hid hFc
            clear hst hx2 hy2 hFc
            go_wp2
            go_meet
            refine ⟨_, ?_, HFC.out.heap_some HT5.out (fun h => h), ?_, HOO.out, HFR.out.tr HFC.out, HFC.out.heap_some HT2.out (fun h => h)⟩
            · rw [← HY.out]; exact HVV.out.fresh HFC.out
            · rw [← HX.out]; exact HII.out.fresh HFC.out
          | true =>
            have hpn := hst.1 rfl
            obtain ⟨T, hT, hTl, hTs⟩ := mk_of (trm s)
            have hsz : S.size ≤ 16777216 := by have := HSS.out; have := HTC.out; omega
            have htr := fun W : World => pTrim_any S W (by omega)
            rw [HSL.out, hT] at htr
            have hps := HPS.out.next hFc
            have hheld : ParT (w.heap.size + 1) g off (.slice q5 acc.length c5) S wc.drew := ⟨hps.2.1, hps.2.2.2⟩
            have n5 : ¬ (Value.slice q5 acc.length c5).ownBlock = some (w.heap.size + 1) := own_ne HII.out HT5.out (by decide)
            have ng5 : ¬ (Value.slice q5 acc.length c5).ownBlock = some g := fun h => by have := HOO.out _ h; omega
            have hal2 : acc.length ≤ 16777216 := by have := HAL.out.1; have := tot_len LL; omega
            have hvc := (HVV.out.fresh hFc).cutv 1 (by simp) (m := t.length) (by simp)
            have t5c := hFc.heap_some HT5.out (fun h => h)
            have t2c := hFc.heap_some HT2.out (fun h => h)
            have hFwc := HFR.out.tr hFc
            have hic := HII.out.fresh hFc
            have HTR := Lib.hid htr
            have HHELD := Lib.hid hheld
            have HPN := Lib.hid hpn
            have HVC := Lib.hid hvc
            have HT5C := Lib.hid t5c
            have HT2C := Lib.hid t2c
            have HFWC := Lib.hid hFwc
            have HIC := Lib.hid hic
            have HTL := Lib.hid hTl
            have hll : ((s :: t).length : Int) = (t.length : Int) + 1 := by simp
            have hl0 : (0 : Int) < (t.length : Int) + 1 := by omega
            clear hst hpn hT hTl hTs htr hps hheld hvc t5c t2c hFwc hic hFc
            go_upto_region 3 with fail
            refine wp_region_K 7 (ParT (w.heap.size + 1) g off (.slice q5 acc.length c5) S) (by kernel_rfl) ?_
            have hHeld := HHELD.out
            refine K_takeD (i := 0) (v := ?_) rfl rfl (by kernel_rfl) (by kernel_rfl) (by kernel_rfl) (by kernel_rfl) (by kernel_rfl) (fun _ _ _ h => h) (Or.inl ⟨by rfl, ?_⟩) (by assumption) ?_
            rotate_left
            · (intro _ hSw; (obtain ⟨hS0, hS1⟩ := hSw); first | (go_simp; done) | (go_simp; with_reducible rfl))
            try simp only [List.setIfInBounds_toArray, List.set_cons_zero, List.set_cons_succ]
            refine K_takeD (i := 1) (v := ?_) rfl rfl (by kernel_rfl) (by kernel_rfl) (by kernel_rfl) (by kernel_rfl) (by kernel_rfl) (fun _ _ _ h => h) (Or.inl ⟨by rfl, ?_⟩) (by assumption) ?_
            rotate_left
            · (intro _ hSw; (obtain ⟨hS0, hS1⟩ := hSw); first | (go_simp; done) | (go_simp; with_reducible rfl))
            try simp only [List.setIfInBounds_toArray, List.set_cons_zero, List.set_cons_succ]
            refine K_takeD (i := 2) (v := ?_) rfl rfl (by kernel_rfl) (by kernel_rfl) (by kernel_rfl) (by kernel_rfl) (by kernel_rfl) (fun _ _ _ h => h) (Or.inl ⟨by rfl, ?_⟩) (by assumption) ?_
            rotate_left
            · (intro _ hSw; (obtain ⟨hS0, hS1⟩ := hSw); first | (go_simp; done) | (go_simp; with_reducible rfl))
            try simp only [List.setIfInBounds_toArray, List.set_cons_zero, List.set_cons_succ]
            refine K_takeD (i := 3) (v := ?_) rfl rfl (by kernel_rfl) (by kernel_rfl) (by kernel_rfl) (by kernel_rfl) (by kernel_rfl) (fun _ _ _ h => h) (Or.inl ⟨by rfl, ?_⟩) (by assumption) ?_
            rotate_left
            · (intro _ hSw; (obtain ⟨hS0, hS1⟩ := hSw); first | (go_simp; done) | (go_simp; with_reducible rfl))
            try simp only [List.setIfInBounds_toArray, List.set_cons_zero, List.set_cons_succ]
            refine K_one (i := 4) (by kernel_rfl) rfl (fun K hK => ?_)
            go_simp
            refine (HTR.out _).mono ?_
            rintro e w5 ⟨rfl, hk5⟩
            refine hK.out _ _ (hHeld.kept hk5 (fun h => h) (fun h => h)) (fun hHeld2 => ?_)
            clear hK K hHeld
            try simp only [Act.put, List.setIfInBounds_toArray, List.set_cons_zero, List.set_cons_succ]
            refine K_one (i := 5) (by kernel_rfl) rfl (fun K hK => ?_)
            go_simp
            refine hK.out _ _ (hHeld2.kept ((Keeps.refl (fun _ => False) _).alloc _) (fun h => h) (fun h => h)) (fun hHeld3 => ?_)
            clear hK K hHeld2
            try simp only [Act.put, List.setIfInBounds_toArray, List.set_cons_zero, List.set_cons_succ]
            have hk6 := (Fresh.drewl hk5).alloc (.cells #[.string T] 9)
            have hr6 := own_kept HIC.out hk6 (fun _ _ h => h)
            have HK6 := Lib.hid hk6
            have HR6 := Lib.hid hr6
            clear hk5 hk6 hr6
            refine K_one (i := 6) (by kernel_rfl) rfl (fun K hK => ?_)
            refine step_append_mine _ (by rfl) _ _ 41 (by rfl) 9 _ 1 16 Tryd.underlying41 HI.out rfl (by decide) (.slice q5 acc.length c5) acc.length (lnCells acc) (by rfl) HR6.out (some ⟨w5.heap.size, 0, none⟩) 1 1 [.string T] (by rfl) rfl (fun h => (by cases h)) (ln_new w5 T 9) (str_one _) (by unfold maxLen; omega) (by omega) ?_
            intro pp cc w7 hrow hgr hkp
            refine hK.out _ _ (hHeld3.kept hkp n5 ng5) (fun hHeld4 => ?_)
            clear hK K hHeld3
            try simp only [Act.put, List.setIfInBounds_toArray, List.set_cons_zero, List.set_cons_succ]
            have t57 := hkp.heap_some (HK6.out.heap_some HT5C.out (fun h => h)) n5
            obtain ⟨ho7, hF7⟩ := own_grow (HFWC.out.tr HK6.out) HOO.out hgr hkp
            have hFF : Fresh w (w7.setCell ⟨w.heap.size + 1, 0, none⟩ (.slice pp (acc.length + 1) cc)) := hF7.trans (Keeps.setCell (D := fun j => j = w.heap.size + 1) (Keeps.refl _ w7) (p := ⟨w.heap.size + 1, 0, none⟩) (fun _ => rfl) _) (fun j h1 h2 => by omega)
            have n57 : ∀ b, (Value.slice pp (acc.length + 1) cc).ownBlock = some b → ¬ b = w.heap.size + 1 := fun b hb e => by rw [e] at hb; exact own_ne hrow t57 (by decide) hb
            have hrow2 := own_kept hrow (Keeps.setCell (D := fun j => j = w.heap.size + 1) (Keeps.refl _ w7) (p := ⟨w.heap.size + 1, 0, none⟩) (fun _ => rfl) (.slice pp (acc.length + 1) cc)) n57
            have t58 : (w7.setCell ⟨w.heap.size + 1, 0, none⟩ (.slice pp (acc.length + 1) cc)).heap[w.heap.size + 1]? = some (.cells #[.slice pp (acc.length + 1) cc] 41 (0, 0)) := by simp [World.setCell, Array.getElem?_modify, t57]
            have u0 : w7.cell? ⟨w.heap.size + 1, 0, none⟩ = some (.slice q5 acc.length c5) := hHeld4.1
            have u1 : w7.frozen? ⟨w.heap.size + 1, 0, none⟩ = false := Lib.frozen_of_heap t57 0
            have hk78 : Keeps (fun j => (Value.slice q5 acc.length c5).ownBlock = some j ∨ j = w.heap.size + 1) wc (w7.setCell ⟨w.heap.size + 1, 0, none⟩ (.slice pp (acc.length + 1) cc)) := by
              refine (HK6.out.mono (fun _ _ h => h.elim)).tr ((hkp.mono (fun _ _ h => .inl h)).setCell (p := ⟨w.heap.size + 1, 0, none⟩) (fun _ => .inr rfl) _)
            have t28 := hk78.heap_some HT2C.out (fun h => by
              rcases h with h | h
              · exact own_ne HIC.out HT2C.out (by decide) h
              · omega)
            have hv8 := HVC.out.keeps hk78 (fun _ h => by
              rcases h with h | h
              · exact ng5 h
              · omega)
            rw [← HTL.out] at HPN
            have HV8 := Lib.hid hv8
            have HT28 := Lib.hid t28
            have HT58 := Lib.hid t58
            have HROW := Lib.hid (Lns.snoc (s := T.data.toList) hrow2)
            have HFF := Lib.hid hFF
            have HO7 := Lib.hid ho7
            clear t57 ho7 hF7 hFF n57 hrow2 t58 hk78 t28 hv8 hrow hgr hkp hHeld4
            refine K_last (by kernel_rfl) rfl (fun K hK => ?_)
            go_simp
            refine hK.out _ _ ?_
            clear hK K
            try simp only [Act.put, List.setIfInBounds_toArray, List.set_cons_zero, List.set_cons_succ]
            refine K_done (by kernel_rfl) ?_ _
            go_wp2
            go_roundw
            case rel => exact ⟨t, acc ++ [T.data.toList], _, HV8.out, by have := HTC.out; omega, HPN.out, HT58.out, HROW.out, HO7.out, HFF.out, HT28.out⟩
            case measure => simp [slen]
  case rest =>
    obtain ⟨lv, hv, t5, hi, ho, hFr, t2⟩ := hcut
    obtain ⟨gv, hat, hgv⟩ := hi.atB
    have c2 : wc.cell? ⟨w.heap.size, 0, none⟩ = some (.pointer (some ⟨C, 0, none⟩)) := by rw [Lib.cell_of_heap t2]; rfl
    have n2 : ¬ o w.heap.size := fun h => by have := HLT.out _ h; omega
    have n5 : ¬ o (w.heap.size + 1) := fun h => by have := HLT.out _ h; omega
    have hfd := H.out.fresh hFr
    have hdo : ∀ (w1 : World) (o1 : Nat → Prop), F w1 (L ++ [((⟨0, false, 0, []⟩, false) : EvL)]) o1 → Mv o o1 wc w1 → Calls Tryd.prog 94 #[.pointer (some ⟨w.heap.size, 0, none⟩), .pointer (some ⟨w.heap.size + 1, 0, none⟩)] w1 (DoOK F (fun _ => False) (fun _ _ => True) (L ++ [((⟨0, false, 0, []⟩, false) : EvL)]) (txE (joinN LL) true) w1 o1) := fun w1 o1 hF1 hm1 =>
      par1_any HE.out C d gv w.heap.size (w.heap.size + 1) lv LL w1 _ o1 (hm1.heap hfd hC) hF1 (by omega) ⟨_, by rw [← HR.out]; unfold leafE; simp only [List.append_assoc, List.cons_append, List.nil_append]; rfl⟩ (hm1.heap t2 n2) (hm1.heap t5 n5) (hat.mv hm1 (fun hne h => by have := ho gv (hgv hne); have := HLT.out _ h; omega))
    have hwi := within_any HE.out (fun _ => False) (fun _ _ => True) C d ⟨0, false, 0, []⟩ 94 #[.pointer (some ⟨w.heap.size, 0, none⟩), .pointer (some ⟨w.heap.size + 1, 0, none⟩)] (txE (joinN LL) true) wc L o hfd (HE.out.fresh HF.out hFr) hC (fun _ h => h.elim) ⟨rest, by rw [← HR.out]; simp [leafE]⟩ (enters_of Tryd.func94 (by kernel_rfl) rfl) hdo
    unfold evV fnV at hwi
    have HWI := Lib.hid hwi
    have HV2 := Lib.hid hv
    have HFR := Lib.hid hFr
    obtain ⟨az, cz, rfl⟩ := hv.form
    clear hwi hdo hv t5 hi ho hFr t2 hat hgv hfd
    go_wp2_with fail
    refine HWI.out.mono ?_
    rintro e w4 ⟨rfl, _, _, o', -, -, hF4, hm4⟩
    have hm5 : Mv o o' w w4 := (Mv.fresh HFR.out).trans hm4.none
    have hv4 : LnAt w4 g _ Z := HV2.out.mv hm4.none (fun _ => HG.out.1)
    have HM5 := Lib.hid hm5
    have HV4 := Lib.hid hv4
    clear hm4 hm5 hv4
    go_wp2
    go_ret
    exact ⟨_, o', rfl, HV4.out, hF4, HM5.out⟩
end
end Go.Proofs.YtbioecifiogffaaDoor
