/- gather.Regular and proseref.Regular give the regular text. Condition: the text has at most 2^40 bytes. -/
import Derived.Test.YtbioecifiogffaaDoorBuild
import Derived.Test.YtbioecifiogffaaDoorText
namespace Go.Proofs.YtbioecifiogffaaDoor
open Go.RowKit

/-- The state of the program's loop. -/
def RegSt (w : World) (s : ByteArray) (pos : Nat) (acc : List UInt8) (W : World) : Prop :=
  (∃ g, w.heap.size ≤ g ∧ BIs W w.heap.size g (Lib.byteCells acc)) ∧ W.heap[w.heap.size + 1]? = some (.stringIter s pos) ∧ Below w.heap.size w W

theorem BIs.iter {w w' : World} {b g k : Nat} {bs : List Value} {s : ByteArray} {pos : Nat} (h : BIs w b g bs) (hi : w.heap[k]? = some (.stringIter s pos)) (hk : Keeps (fun j => j = b ∨ j = g) w w') : w'.heap[k]? = some (.stringIter s pos) ∨ g = k := by
  by_cases hg : g = k
  · exact .inr hg
  · obtain ⟨p, v, hb, _⟩ := h
    refine .inl (hk.heap_some hi ?_)
    rintro (rfl | rfl)
    · rw [hb] at hi; cases hi
    · exact hg rfl

/-- A ghost that is no row may be any block from B on. -/
theorem BIs.move {w : World} {b g k : Nat} {bs : List Value} {s : ByteArray} {pos : Nat} (h : BIs w b g bs) (hi : w.heap[k]? = some (.stringIter s pos)) (B : Nat) (hB : B ≤ g) (hb : B ≤ b) : ∃ g', B ≤ g' ∧ BIs w b g' bs ∧ g' ≠ k := by
  by_cases hg : g = k
  · subst hg
    obtain ⟨p, v, hbk, hp, hr⟩ := h
    rcases hr.1.2 with ⟨rfl, h0⟩ | ⟨g', cap, cur, rfl, hb2, hgg, rest⟩
    · refine ⟨b, hb, ⟨p, _, hbk, hp, ⟨⟨hr.1.1, .inl ⟨rfl, h0⟩⟩, fun k e => by cases e⟩⟩, ?_⟩
      rintro rfl
      rw [hi] at hbk
      cases hbk
    · have e1 : g' = g := hr.2 g' rfl
      subst e1
      rw [hi] at hgg
      cases hgg
  · exact ⟨g, hB, h, hg⟩

theorem reg_byte (w : World) (s : ByteArray) (pos : Nat) (acc : List UInt8) (c : UInt8) (W : World) (h : RegSt w s pos acc W) (hl : acc.length + 1 ≤ 70368744177664) :
    Calls Tryd.prog 62 #[.pointer (some ⟨w.heap.size, 0, none⟩), .int .u8 c.toNat] W fun e W' => e = .returned .nilIface ∧ RegSt w s pos (acc ++ [c]) W' := by
  obtain ⟨⟨g0, hg0, hb0⟩, hi, hbw⟩ := h
  obtain ⟨g, hg, hb, hne⟩ := hb0.move hi w.heap.size hg0 (Nat.le_refl _)
  refine (Builder_WriteByte _ g _ _ W hb (by rw [Lib.byteCells_length]; exact hl)).mono ?_
  rintro e W' ⟨rfl, g', hb', hg', hk⟩
  have hs := hbw.size
  refine ⟨rfl, ⟨g', by omega, by rw [Lib.byteCells_append]; exact hb'⟩, ?_, hbw.trans (hk.below hs (fun k hk1 hk2 => by omega))⟩
  rcases hb.iter hi hk with h1 | h1
  · exact h1
  · exact absurd h1 hne

theorem reg_rune (w : World) (s : ByteArray) (pos : Nat) (acc : List UInt8) (r : Int) (h0 : 0 ≤ r) (h1 : r ≤ 2147483647) (W : World) (h : RegSt w s pos acc W) (hl : acc.length + 4 ≤ 70368744177664) :
    Calls Tryd.prog 63 #[.pointer (some ⟨w.heap.size, 0, none⟩), .int .i32 r] W fun e W' => (∃ n : Int, e = .returned (.tuple #[.int .i64 n, .nilIface])) ∧ RegSt w s pos (acc ++ Lib.encodeRune r) W' := by
  obtain ⟨⟨g0, hg0, hb0⟩, hi, hbw⟩ := h
  obtain ⟨g, hg, hb, hne⟩ := hb0.move hi w.heap.size hg0 (Nat.le_refl _)
  have hs := hbw.size
  refine (Builder_WriteRune w.heap.size _ g _ r (by omega) h1 W hb hg hs (by rw [Lib.byteCells_length]; exact hl)).mono ?_
  rintro e W' ⟨he, g', hb', hg', hk⟩
  refine ⟨he, ⟨g', hg', by rw [Lib.byteCells_append, Lib.byteCells_encodeRune]; exact hb'⟩, ?_, hbw.trans (hk.below hs (fun k hk1 hk2 => by omega))⟩
  rcases hb.iter hi hk with h1 | h1
  · exact h1
  · exact absurd h1 hne

theorem RegSt.next {w : World} {s : ByteArray} {pos : Nat} {acc : List UInt8} {W : World} (h : RegSt w s pos acc W) (pos' : Nat) : RegSt w s pos' acc (W.iterAt (w.heap.size + 1) s pos') := by
  obtain ⟨⟨g0, hg0, hb0⟩, hi, hbw⟩ := h
  obtain ⟨g, hg, hb, hne⟩ := hb0.move hi w.heap.size hg0 (Nat.le_refl _)
  have hk : Keeps (fun k => k = w.heap.size + 1) W (W.iterAt (w.heap.size + 1) s pos') :=
    ⟨rfl, rfl, rfl, by rw [Lib.iterAt_size]; exact Nat.le_refl _, fun k _ hn => Lib.iterAt_other W _ k s pos' hn⟩
  refine ⟨⟨g, hg, hb.kept hk (by omega) (fun _ => hne)⟩, Lib.iterAt_heap W _ s pos pos' hi, hbw.trans (hk.below hbw.size (fun k hk1 hk2 => by omega))⟩

set_option maxHeartbeats 4000000 in
set_option maxRecDepth 1000000 in
theorem Regular_any (s : ByteArray) (w : World) (hs : s.size ≤ 1099511627776) :
    Calls Tryd.prog 40 #[.string s] w fun e w' => e = .returned (.string ⟨(regular s).toArray⟩) ∧ Fresh w w' := by
  go_enter Tryd.func40, Tryd.ntmps40
  go_wp2
  go_loopw [4] (fun cr wr => ∃ (pos fuel : Nat) (acc : List UInt8) (c : Bool), cr = .bool c ∧ RegSt w s pos acc wr ∧ acc ++ regP c (runesAt s fuel pos) = regular s ∧ s.size ≤ pos + fuel ∧ acc.length + 5 * fuel ≤ 5 * s.size) (fun _ wr => s.size - wr.iterPos (w.heap.size + 1))
  case atStart =>
    refine ⟨0, s.size, [], false, rfl, ⟨⟨w.heap.size, Nat.le_refl _, (BIs.fresh w w.heap.size).kept ((Keeps.refl (fun _ => False) _).alloc _) (fun h => h) (fun _ h => h)⟩, ?_, ((Below.refl _ w).alloc (Nat.le_refl _) _).alloc (by simp) _⟩, ?_, by omega, by simp⟩
    · have := World.iter_heap (w.alloc (.cells #[.pointer none, .slice none 0 0] 96)) s 0
      simpa using this
    · rw [List.nil_append]; exact regular_P s
  case round =>
    obtain ⟨pos, fuel, acc, c, rfl, hS, hacc, hfu, hal⟩ := hrel
    by_cases hp : pos < s.size
    · obtain ⟨f, rfl⟩ : ∃ f, fuel = f + 1 := ⟨fuel - 1, by omega⟩
      have hnx : ∀ ty, (Instr.next (.pointer (some ⟨w.heap.size + 1, 0, none⟩)) true ty).run Tryd.prog wr = _ := fun ty => Lib.run_next_any_at wr (w.heap.size + 1) s pos ty hS.2.1 hp
      have hwd := width_pos s pos hp
      have hd1 := decode_le s pos
      have hS1 := hS.next (pos + (Utf8.decode s pos).2)
      have hm0 : wr.iterPos (w.heap.size + 1) = pos := by simp only [World.iterPos, hS.2.1]
      rw [runesAt_step s f pos hp] at hacc
      clear hS
      generalize (Utf8.decode s pos).1 = r at *
      generalize (Utf8.decode s pos).2 = wd at *
      have HA : Hid (acc ++ regP c (r :: runesAt s f (pos + wd)) = regular s) := hacc
      clear hacc
      have HM : Hid (wr.iterPos (w.heap.size + 1) = pos) := hm0
      clear hm0
      have hdone : ∀ (acc' : List UInt8) (W : World), RegSt w s (pos + wd) acc' W → s.size - W.iterPos (w.heap.size + 1) < s.size - wr.iterPos (w.heap.size + 1) := by
        intro acc' W h
        have : W.iterPos (w.heap.size + 1) = pos + wd := by simp only [World.iterPos, h.2.1]
        rw [this, HM.out]
        omega
      have HD := Lib.hid hdone
      clear hdone
      have hlen : acc.length + 4 ≤ 70368744177664 := by omega
      by_cases h13 : r = 13
      · obtain ⟨e13, en10⟩ : (((r : Int) == 13) = true) ∧ (((r : Int) != 10) = true) := by subst h13; decide
        have H13 := Lib.hid h13
        clear h13
        cases c
        · go_wp2
          go_roundw
          case rel => exact ⟨pos + wd, f, acc, true, rfl, hS1, by rw [← HA.out]; simp [regP, H13.out], by omega, by omega⟩
          case measure => exact HD.out _ _ hS1
        · go_wp2_with (go_at_call 62; refine (reg_byte w s _ acc 10 _ hS1 (by omega)).mono ?_)
          rintro e W2 ⟨rfl, hS2⟩
          go_wp2
          go_roundw
          case rel => exact ⟨pos + wd, f, acc ++ [10], true, rfl, hS2, by rw [← HA.out]; simp [regP, H13.out], by omega, by simp; omega⟩
          case measure => exact HD.out _ _ hS2
      · have e13 : ((r : Int) == 13) = false := by rw [beq_eq_false_iff_ne]; omega
        have H13 := Lib.hid h13
        clear h13
        by_cases h0 : r = 0
        · obtain ⟨e0, en10⟩ : (((r : Int) == 0) = true) ∧ (((r : Int) != 10) = true) := by subst h0; decide
          have H0 := Lib.hid h0
          clear h0
          cases c
          · go_wp2_with (go_at_call 63; refine (reg_rune w s _ acc 65533 (by omega) (by omega) _ hS1 (by omega)).mono ?_)
            rintro e W2 ⟨⟨n, rfl⟩, hS2⟩
            go_wp2
            go_roundw
            case rel => exact ⟨pos + wd, f, _, false, rfl, hS2, by rw [← HA.out]; simp [regP, H0.out], by omega, by have := encodeRune_le 65533; simp; omega⟩
            case measure => exact HD.out _ _ hS2
          · go_wp2_with (go_at_call 62; refine (reg_byte w s _ acc 10 _ hS1 (by omega)).mono ?_)
            rintro e W2 ⟨rfl, hS2⟩
            go_wp2_with (go_at_call 63; refine (reg_rune w s _ (acc ++ [10]) 65533 (by omega) (by omega) _ hS2 (by simp; omega)).mono ?_)
            rintro e W3 ⟨⟨n, rfl⟩, hS3⟩
            go_wp2
            go_roundw
            case rel => exact ⟨pos + wd, f, _, false, rfl, hS3, by rw [← HA.out]; simp [regP, H0.out], by omega, by have := encodeRune_le 65533; simp; omega⟩
            case measure => exact HD.out _ _ hS3
        · have e0 : ((r : Int) == 0) = false := by rw [beq_eq_false_iff_ne]; omega
          have H0 := Lib.hid h0
          clear h0
          cases c
          · go_wp2_with (go_at_call 63; refine (reg_rune w s _ acc r (by omega) (by omega) _ hS1 (by omega)).mono ?_)
            rintro e W2 ⟨⟨n, rfl⟩, hS2⟩
            go_wp2
            go_roundw
            case rel => exact ⟨pos + wd, f, _, false, rfl, hS2, by rw [← HA.out]; simp [regP, H0.out, H13.out], by omega, by have := encodeRune_le r; simp; omega⟩
            case measure => exact HD.out _ _ hS2
          · by_cases h10 : r = 10
            · obtain en10 : (((r : Int) != 10) = false) := by subst h10; decide
              have H10 := Lib.hid h10
              clear h10
              go_wp2_with (go_at_call 63; refine (reg_rune w s _ acc r (by omega) (by omega) _ hS1 (by omega)).mono ?_)
              rintro e W2 ⟨⟨n, rfl⟩, hS2⟩
              go_wp2
              go_roundw
              case rel => exact ⟨pos + wd, f, _, false, rfl, hS2, by rw [← HA.out]; simp [regP, H10.out], by omega, by have := encodeRune_le r; simp; omega⟩
              case measure => exact HD.out _ _ hS2
            · have en10 : (((r : Int) != 10) = true) := by rw [bne_iff_ne]; omega
              have H10 := Lib.hid h10
              clear h10
              go_wp2_with (go_at_call 62; refine (reg_byte w s _ acc 10 _ hS1 (by omega)).mono ?_)
              rintro e W2 ⟨rfl, hS2⟩
              go_wp2_with (go_at_call 63; refine (reg_rune w s _ (acc ++ [10]) r (by omega) (by omega) _ hS2 (by simp; omega)).mono ?_)
              rintro e W3 ⟨⟨n, rfl⟩, hS3⟩
              go_wp2
              go_roundw
              case rel => exact ⟨pos + wd, f, _, false, rfl, hS3, by rw [← HA.out]; simp [regP, H0.out, H13.out, H10.out], by omega, by have := encodeRune_le r; simp; omega⟩
              case measure => exact HD.out _ _ hS3
    · have hnx : ∀ ty, (Instr.next (.pointer (some ⟨w.heap.size + 1, 0, none⟩)) true ty).run Tryd.prog wr = _ := fun ty => Lib.run_next_end_at wr (w.heap.size + 1) s pos ty hS.2.1 hp
      rw [runesAt_end s fuel pos hp] at hacc
      have HA : Hid (acc ++ regP c [] = regular s) := hacc
      clear hacc hp
      obtain ⟨⟨g, hg, hb⟩, hi, hbw⟩ := hS
      have hS : RegSt w s pos acc wr := ⟨⟨g, hg, hb⟩, hi, hbw⟩
      have fin : ∀ (g : Nat) (acc' : List UInt8) (W : World), BIs W w.heap.size g (Lib.byteCells acc') → w.heap.size ≤ g → Below w.heap.size w W → acc' = regular s →
          Calls Tryd.prog 54 #[.pointer (some ⟨w.heap.size, 0, none⟩)] W fun e W' => e = .returned (.string ⟨(regular s).toArray⟩) ∧ Fresh w W' := by
        intro g acc' W hb hg hbw he
        refine (Builder_String _ g acc' W hb).mono ?_
        rintro e W' ⟨rfl, hk⟩
        subst he
        exact ⟨rfl, Fresh.of (hbw.trans (hk.below hbw.size (fun k h1 h2 => by omega)))⟩
      have FIN := Lib.hid fin
      clear fin
      cases c
      · have hfin := FIN.out g acc wr hb hg hbw (by rw [← HA.out]; simp [regP])
        clear hb hi hbw hS
        go_wp2_with (go_at_call 54; refine hfin.mono ?_)
        rintro e W2 ⟨rfl, hF⟩
        go_wp2
        go_ret
        exact ⟨rfl, hF⟩
      · clear hb hi hbw
        go_wp2_with (go_at_call 62; refine (reg_byte w s _ acc 10 _ hS (by omega)).mono ?_)
        rintro e W2 ⟨rfl, ⟨g2, hg2, hb2⟩, hi2, hbw2⟩
        have hfin := FIN.out g2 (acc ++ [10]) W2 hb2 hg2 hbw2 (by rw [← HA.out]; simp [regP])
        clear hb2 hi2 hbw2 hS
        go_wp2_with (go_at_call 54; refine hfin.mono ?_)
        rintro e W3 ⟨rfl, hF⟩
        go_wp2
        go_ret
        exact ⟨rfl, hF⟩

set_option maxHeartbeats 4000000 in
set_option maxRecDepth 1000000 in
theorem refRegular_any (s : ByteArray) (w : World) (hs : s.size ≤ 1099511627776) :
    Calls Tryd.prog 12 #[.string s] w fun e w' => e = .returned (.string ⟨(regular s).toArray⟩) ∧ Fresh w w' := by
  have henc : ∀ n : Int, Utf8.encode n = ⟨(Lib.encodeRune n).toArray⟩ := encode_eq
  go_enter Tryd.func12, Tryd.ntmps12
  go_wp2
  go_loopw [3] (fun o wr => ∃ (pos fuel : Nat) (acc : List UInt8), o = .string ⟨acc.toArray⟩ ∧ wr.heap[w.heap.size]? = some (.stringIter s pos) ∧ Fresh w wr ∧ acc ++ regR (runesAt s fuel pos) = regular s ∧ s.size ≤ pos + fuel ∧ acc.length + 5 * fuel ≤ 5 * s.size) (fun _ wr => s.size - wr.iterPos w.heap.size)
  case atStart =>
    exact ⟨0, s.size, [], rfl, World.iter_heap w s 0, (Keeps.refl _ _).alloc _, rfl, by omega, by simp⟩
  case round =>
    obtain ⟨pos, fuel, acc, rfl, hi, hF, hacc, hfu, hal⟩ := hrel
    by_cases hp : pos < s.size
    · obtain ⟨f, rfl⟩ : ∃ f, fuel = f + 1 := ⟨fuel - 1, by omega⟩
      have hnx : ∀ ty, (Instr.next (.pointer (some ⟨w.heap.size, 0, none⟩)) true ty).run Tryd.prog wr = _ := fun ty => Lib.run_next_any_at wr w.heap.size s pos ty hi hp
      have hwd := width_pos s pos hp
      have hd1 := decode_le s pos
      have hm0 : wr.iterPos w.heap.size = pos := by simp only [World.iterPos, hi]
      have hsm := decode_small s pos hp
      have hhd := head_runesAt s f (pos + (Utf8.decode s pos).2) (by omega)
      rw [runesAt_step s f pos hp] at hacc
      have hi2 := Lib.iterAt_heap wr w.heap.size s pos (pos + (Utf8.decode s pos).2) hi
      have hF2 : Fresh w (wr.iterAt w.heap.size s (pos + (Utf8.decode s pos).2)) := hF.trans (D' := fun k => k = w.heap.size) ⟨rfl, rfl, rfl, by rw [Lib.iterAt_size]; exact Nat.le_refl _, fun k _ hn => Lib.iterAt_other wr _ k s _ hn⟩ (fun j h1 h2 => by omega)
      have hm1 : (wr.iterAt w.heap.size s (pos + (Utf8.decode s pos).2)).iterPos w.heap.size = pos + (Utf8.decode s pos).2 := by simp only [World.iterPos, hi2]
      clear hi hF
      generalize (Utf8.decode s pos).1 = r at *
      generalize (Utf8.decode s pos).2 = wd at *
      have HD : Hid (s.size - (wr.iterAt w.heap.size s (pos + wd)).iterPos w.heap.size < s.size - wr.iterPos w.heap.size) := by
        show _ < _
        rw [hm0, hm1]; omega
      have HA : Hid (acc ++ regR (r :: runesAt s f (pos + wd)) = regular s) := hacc
      clear hacc hm0 hm1
      have hle := encodeRune_le r
      by_cases h0 : r = 0
      · obtain ⟨e0, e3⟩ : (((r : Int) == 0) = true) ∧ (((r : Int) == 65533) = false) := by subst h0; decide
        have H0 := Lib.hid h0
        clear h0 hsm hhd
        go_wp2
        go_roundw
        case rel => exact ⟨pos + wd, f, acc ++ Lib.encodeRune 65533, by rw [ba_append]; rfl, hi2, hF2, by rw [← HA.out]; simp [regR, H0.out], by omega, by have := encodeRune_le 65533; simp; omega⟩
        case measure => exact HD.out
      · have e0 : ((r : Int) == 0) = false := by rw [beq_eq_false_iff_ne]; omega
        have H0 := Lib.hid h0
        clear h0
        by_cases h3 : r = 65533
        · have e3 : ((r : Int) == 65533) = true := by subst h3; decide
          have H3 := Lib.hid h3
          clear h3 hsm hhd
          go_wp2
          go_roundw
          case rel => exact ⟨pos + wd, f, acc ++ Lib.encodeRune 65533, by rw [ba_append]; rfl, hi2, hF2, by rw [← HA.out]; simp [regR, H3.out], by omega, by have := encodeRune_le 65533; simp; omega⟩
          case measure => exact HD.out
        · have e3 : ((r : Int) == 65533) = false := by rw [beq_eq_false_iff_ne]; omega
          have H3 := Lib.hid h3
          clear h3
          by_cases h13 : r = 13
          · have e13 : ((r : Int) == 13) = true := by subst h13; decide
            have hw1 : wd = 1 := (hsm (by omega)).2
            have H13 := Lib.hid h13
            have HW := Lib.hid hw1
            have HH := Lib.hid hhd
            clear h13 hsm hhd hw1
            by_cases hlt : pos + 1 < s.size
            · by_cases h10 : (s[pos + 1]'hlt).toNat = 10
              · have e10 : (((s[pos + 1]'hlt).toNat : Int) == 10) = true := by rw [beq_iff_eq]; omega
                have hd10 : (runesAt s f (pos + wd)).head? = some 10 := HH.out.2 ⟨by rw [HW.out]; exact hlt, by simp only [HW.out]; exact h10⟩
                have HX := Lib.hid hd10
                clear hd10 h10
                go_wp2
                go_roundw
                case rel => exact ⟨pos + wd, f, acc, rfl, hi2, hF2, by rw [← HA.out]; simp [regR, H13.out, HX.out], by omega, by omega⟩
                case measure => exact HD.out
              · have e10 : (((s[pos + 1]'hlt).toNat : Int) == 10) = false := by rw [beq_eq_false_iff_ne]; omega
                have hd10 : ¬ (runesAt s f (pos + wd)).head? = some 10 := fun h => by
                  obtain ⟨_, h'⟩ := HH.out.1 h
                  simp only [HW.out] at h'
                  exact h10 h'
                have HX := Lib.hid hd10
                clear hd10 h10
                go_wp2
                go_roundw
                case rel => exact ⟨pos + wd, f, acc ++ [10], by rw [← ba_append], hi2, hF2, by rw [← HA.out]; simp [regR, H13.out, HX.out], by omega, by simp; omega⟩
                case measure => exact HD.out
            · have hd10 : ¬ (runesAt s f (pos + wd)).head? = some 10 := fun h => by
                obtain ⟨h', _⟩ := HH.out.1 h
                rw [HW.out] at h'
                exact hlt h'
              have HX := Lib.hid hd10
              clear hd10
              go_wp2
              go_roundw
              case rel => exact ⟨pos + wd, f, acc ++ [10], by rw [← ba_append], hi2, hF2, by rw [← HA.out]; simp [regR, H13.out, HX.out], by omega, by simp; omega⟩
              case measure => exact HD.out
          · have e13 : ((r : Int) == 13) = false := by rw [beq_eq_false_iff_ne]; omega
            have H13 := Lib.hid h13
            clear h13 hsm hhd
            go_wp2
            go_roundw
            case rel => exact ⟨pos + wd, f, acc ++ Lib.encodeRune r, by rw [← ba_append], hi2, hF2, by rw [← HA.out]; simp [regR, H0.out, H3.out, H13.out], by omega, by simp; omega⟩
            case measure => exact HD.out
    · have hnx : ∀ ty, (Instr.next (.pointer (some ⟨w.heap.size, 0, none⟩)) true ty).run Tryd.prog wr = _ := fun ty => Lib.run_next_end_at wr w.heap.size s pos ty hi hp
      rw [runesAt_end s fuel pos hp] at hacc
      simp only [regR, List.append_nil] at hacc
      have HA := Lib.hid hacc
      clear hacc hp hi
      go_wp2
      go_ret
      exact ⟨by rw [show acc = regular s from HA.out]; rfl, hF⟩
end Go.Proofs.YtbioecifiogffaaDoor
