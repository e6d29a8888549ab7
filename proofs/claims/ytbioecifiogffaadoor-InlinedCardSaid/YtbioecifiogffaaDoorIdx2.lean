/- strings.IndexAny at the signs that end what a link leads to, whatever bytes the text has. Condition: the text has at most 2^24 bytes. -/
import Derived.Test.YtbioecifiogffaaDoorIdx
import Derived.Lib.IndexAny
import Derived.Lib.DecodeN
import Derived.Laws.RangeAny
namespace Go.Proofs.YtbioecifiogffaaDoor
open Go.RowKit

theorem decodeN_wide (n b0 b1 b2 b3 : Nat) (h : 128 ≤ b0) (h0 : b0 < 256) : (Lib.decodeN n b0 b1 b2 b3).2 ≤ 4 ∧ (1 < (Lib.decodeN n b0 b1 b2 b3).2 → 1 < n ∧ 128 ≤ b1) ∧ (2 < (Lib.decodeN n b0 b1 b2 b3).2 → 2 < n ∧ 128 ≤ b2) ∧ (3 < (Lib.decodeN n b0 b1 b2 b3).2 → 3 < n ∧ 128 ≤ b3) ∧ (Lib.decodeN n b0 b1 b2 b3).1 ≤ 1114111 := by
  unfold Lib.decodeN
  repeat' split
  all_goals simp only
  all_goals omega
theorem get_bang (s : ByteArray) (j : Nat) (h : j < s.size) : s.get! j = s[j]'h := by
  simp [ByteArray.get!, getElem!_pos, h]
  rfl
theorem wide_bytes (s : ByteArray) (pos : Nat) (h : pos < s.size) (ha : 128 ≤ (s[pos]'h).toNat) :
    pos + (Utf8.decode s pos).2 ≤ s.size ∧ (Utf8.decode s pos).1 ≤ 1114111 ∧ ∀ (j : Nat) (hj : j < s.size), pos ≤ j → j < pos + (Utf8.decode s pos).2 → 128 ≤ (s[j]'hj).toNat := by
  have hd := decodeN_wide (s.size - pos) (s.get! pos).toNat (s.get! (pos + 1)).toNat (s.get! (pos + 2)).toNat (s.get! (pos + 3)).toNat (by rw [get_bang s pos h]; exact ha) (s.get! pos).toNat_lt
  rw [← Lib.decode_at] at hd
  obtain ⟨h4, h1, h2, h3, hr⟩ := hd
  refine ⟨?_, hr, fun j hj hp hw => ?_⟩
  · rcases Nat.lt_or_ge 3 (Utf8.decode s pos).2 with c | c
    · have := (h3 c).1; omega
    · rcases Nat.lt_or_ge 2 (Utf8.decode s pos).2 with c | c
      · have := (h2 c).1; omega
      · rcases Nat.lt_or_ge 1 (Utf8.decode s pos).2 with c | c
        · have := (h1 c).1; omega
        · omega
  · rw [← get_bang s j hj]
    obtain ⟨d, rfl⟩ : ∃ d, j = pos + d := ⟨j - pos, by omega⟩
    have hd4 : d < 4 := by omega
    match d, hd4 with
    | 0, _ => rw [Nat.add_zero, get_bang s pos h]; exact ha
    | 1, _ => exact (h1 (by omega)).2
    | 2, _ => exact (h2 (by omega)).2
    | 3, _ => exact (h3 (by omega)).2
theorem chs_contains (x : UInt8) (h : 128 ≤ x.toNat) : ([41, 32, 9, 10, 40] : List UInt8).contains x = false := by
  have h2 : ∀ y ∈ ([41, 32, 9, 10, 40] : List UInt8), y.toNat < 128 := by decide
  cases hc : ([41, 32, 9, 10, 40] : List UInt8).contains x with
  | false => rfl
  | true =>
    have := h2 x (by simpa using hc)
    omega
theorem noAny_wide {s : ByteArray} {pos : Nat} (h : pos < s.size) (ha : 128 ≤ (s[pos]'h).toNat) (hn : Lib.NoAny s.data.toList [41, 32, 9, 10, 40] pos) : Lib.NoAny s.data.toList [41, 32, 9, 10, 40] (pos + (Utf8.decode s pos).2) := by
  intro j b hj hb
  rcases Nat.lt_or_ge j pos with h1 | h1
  · exact hn j b h1 hb
  · obtain ⟨hl, he⟩ := List.getElem?_eq_some_iff.1 hb
    have hjs : j < s.size := by simpa using hl
    have h2 := (wide_bytes s pos h ha).2.2 j hjs h1 hj
    refine chs_contains b ?_
    rw [← he]
    simpa [ByteArray.getElem_eq_getElem_data] using h2

set_option maxHeartbeats 4000000 in
set_option maxRecDepth 1000000 in
theorem idxAny_short (s : ByteArray) (w : World) (h8 : s.size ≤ 8) :
    Calls Tryd.prog 103 #[.string s, .string ⟨#[41, 32, 9, 10, 40]⟩] w fun e w' => e = .returned (.int .i64 (Lib.indexAny s.data.toList [41, 32, 9, 10, 40])) ∧ Fresh w w' := by
  have h8z : decide ((8 : Int) < (s.size : Int)) = false := decide_eq_false (by omega)
  have hlo : ∀ (x : UInt8), x.toNat < 128 → ∀ W : World, Calls Tryd.prog 127 #[.string ⟨#[41, 32, 9, 10, 40]⟩, .int .i32 x.toNat] W fun e w' => e = .returned (.int .i64 (Lib.indexByte [41, 32, 9, 10, 40] x)) ∧ w' = W := fun x hx W => by
    have h := Tryd.strings_IndexRune_ascii ⟨#[41, 32, 9, 10, 40]⟩ (x.toNat : Int) W (by omega) (by omega)
    have e1 : ((x.toNat : Int)).toNat.toUInt8 = x := by simp
    rw [e1] at h
    exact h
  have hhi : ∀ (r : Nat), 128 ≤ r → r ≤ 1114111 → ∀ W : World, Calls Tryd.prog 127 #[.string ⟨#[41, 32, 9, 10, 40]⟩, .int .i32 r] W fun e w' => e = .returned (.int .i64 (-1)) ∧ Fresh W w' := fun r a b W => idxRune_hi r W a b
  have HLO := Lib.hid hlo
  have HHI := Lib.hid hhi
  have H8 := Lib.hid h8z
  have hsu := fun W : World => Tryd.strings_shouldUseASCIISet (s.size : Int) W
  have HSU := Lib.hid hsu
  clear hlo hhi h8z hsu
  go_enter Tryd.func103, Tryd.ntmps103
  go_wp2_with (go_at_call 128; refine (HSU.out _).mono ?_; rintro e w' ⟨rfl, rfl⟩; rw [H8.out])
  go_loopw [9, 10] (fun _ _ wr => ∃ pos : Nat, wr.heap[w'.heap.size]? = some (.stringIter s pos) ∧ Fresh w' wr ∧ Lib.NoAny s.data.toList [41, 32, 9, 10, 40] pos ∧ pos ≤ s.size) (fun _ _ wr => s.size - wr.iterPos w'.heap.size)
  case atStart => exact ⟨0, World.iter_heap w' s 0, (Keeps.refl _ _).alloc _, Lib.NoAny.zero _ _, Nat.zero_le _⟩
  case round =>
    obtain ⟨pos, hi, hF, hno, hpl⟩ := hrel
    by_cases hp : pos < s.size
    · have hnx : ∀ ty, (Instr.next (.pointer (some ⟨w'.heap.size, 0, none⟩)) true ty).run Tryd.prog wr = _ := fun ty => Lib.run_next_any_at wr w'.heap.size s pos ty hi hp
      have hwd := width_pos s pos hp
      have hm0 : wr.iterPos w'.heap.size = pos := by simp only [World.iterPos, hi]
      have hi2 := Lib.iterAt_heap wr w'.heap.size s pos (pos + (Utf8.decode s pos).2) hi
      have hF2 : Fresh w' (wr.iterAt w'.heap.size s (pos + (Utf8.decode s pos).2)) := hF.trans (D' := fun k => k = w'.heap.size) ⟨rfl, rfl, rfl, by rw [Lib.iterAt_size]; exact Nat.le_refl _, fun k _ hn => Lib.iterAt_other wr _ k s _ hn⟩ (fun j h1 h2 => by omega)
      have hsm := decode_small s pos hp
      by_cases ha : (s[pos]'hp).toNat < 128
      · obtain ⟨x, hx⟩ : ∃ x : UInt8, s[pos]'hp = x := ⟨_, rfl⟩
        have hxl : s.data.toList[pos]? = some x := by rw [← hx]; exact Lib.data_getElem? s pos hp
        have hdec : (Utf8.decode s pos).1 = x.toNat ∧ (Utf8.decode s pos).2 = 1 := by
          have hd : (Utf8.decode s pos).1 < 128 := by
            rw [Lib.decode_at, get_bang s pos hp]
            unfold Lib.decodeN
            rw [if_pos ha]
            exact ha
          obtain ⟨d1, d2⟩ := hsm hd
          exact ⟨by rw [← d1, hx], d2⟩
        rw [hx] at ha
        obtain ⟨d1, d2⟩ := hdec
        rw [d1, d2] at hnx
        rw [d2] at hi2 hF2
        have HX := Lib.hid hxl
        have HNO := Lib.hid hno
        have HM := Lib.hid hm0
        have hlx := HLO.out x ha
        have hcon := Lib.contains_iff_indexByte [41, 32, 9, 10, 40] x
        have HI2 := Lib.hid hi2
        have HF2 := Lib.hid hF2
        clear hsm hwd hm0 hxl hno hx d1 d2 hi hF hi2 hF2
        cases hin : ([41, 32, 9, 10, 40] : List UInt8).contains x
        · rw [hin] at hcon
          have hlt : ¬ ((0 : Int) ≤ Lib.indexByte [41, 32, 9, 10, 40] x) := of_decide_eq_false hcon.symm
          have hlt2 : Lib.indexByte [41, 32, 9, 10, 40] x < 0 := by omega
          generalize Lib.indexByte [41, 32, 9, 10, 40] x = J at *
          have HLX := Lib.hid hlx
          have HIN := Lib.hid hin
          clear hcon hlt hin hlx
          go_wp2_with fail
          refine (HLX.out _).mono ?_
          rintro e w2 ⟨rfl, rfl⟩
          go_wp2
          go_roundw
          case rel => exact ⟨pos + 1, HI2.out, HF2.out, HNO.out.succ HX.out HIN.out, by omega⟩
          case measure => rw [HM.out]; simp only [World.iterPos, HI2.out]; omega
        · rw [hin] at hcon
          have hge : (0 : Int) ≤ Lib.indexByte [41, 32, 9, 10, 40] x := of_decide_eq_true hcon.symm
          have hfin := Lib.indexAny_hit HNO.out HX.out hin
          generalize Lib.indexByte [41, 32, 9, 10, 40] x = J at *
          have HLX := Lib.hid hlx
          have HFIN := Lib.hid hfin
          clear hcon hin hlx hfin
          go_wp2_with fail
          refine (HLX.out _).mono ?_
          rintro e w2 ⟨rfl, rfl⟩
          go_wp2
          go_ret
          exact ⟨by rw [HFIN.out]; rfl, HF2.out⟩
      · have ha' : 128 ≤ (s[pos]'hp).toNat := by omega
        obtain ⟨wl, wr1, -⟩ := wide_bytes s pos hp ha'
        have hno2 := noAny_wide hp ha' hno
        have hr1 := (decode_high s pos hp ha').1
        generalize (Utf8.decode s pos).1 = r at *
        generalize (Utf8.decode s pos).2 = wd at *
        have HNO := Lib.hid hno2
        have HM := Lib.hid hm0
        have hlx := HHI.out r hr1 wr1
        have HLX := Lib.hid hlx
        have HI2 := Lib.hid hi2
        have HF2 := Lib.hid hF2
        clear hsm hm0 hno2 hno hlx hi hF ha ha' hi2 hF2
        go_wp2_with fail
        refine (HLX.out _).mono ?_
        rintro e w2 ⟨rfl, hk2⟩
        have HI3 := Lib.hid (hk2.heap_some HI2.out (fun h => h))
        have HF3 := Lib.hid (HF2.out.tr hk2)
        clear hk2
        go_wp2
        go_roundw
        case rel => exact ⟨pos + wd, HI3.out, HF3.out, HNO.out, by omega⟩
        case measure => rw [HM.out]; simp only [World.iterPos, HI3.out]; omega
    · have hnx : ∀ ty, (Instr.next (.pointer (some ⟨w'.heap.size, 0, none⟩)) true ty).run Tryd.prog wr = _ := fun ty => Lib.run_next_end_at wr w'.heap.size s pos ty hi hp
      obtain rfl : pos = s.size := by omega
      have hfin : Lib.indexAny s.data.toList [41, 32, 9, 10, 40] = -1 := Lib.indexAny_none (by rw [← Lib.size_eq]; exact hno)
      have HFIN := Lib.hid hfin
      have HF := Lib.hid hF
      clear hfin hno hi hF hp
      go_wp2
      go_ret
      exact ⟨by rw [HFIN.out]; rfl, HF.out⟩

theorem idxAny_any (s : ByteArray) (w : World) (hs : s.size ≤ 16777216) :
    Calls Tryd.prog 103 #[.string s, .string ⟨#[41, 32, 9, 10, 40]⟩] w fun e w' => e = .returned (.int .i64 (Lib.indexAny s.data.toList [41, 32, 9, 10, 40])) ∧ Fresh w w' := by
  by_cases h8 : s.size ≤ 8
  · exact idxAny_short s w h8
  · refine (Tryd.strings_IndexAny_long (fun _ => by kernel_rfl) s ⟨#[41, 32, 9, 10, 40]⟩ w (by decide) (by omega) (by omega) (by decide) (fun j b hb => ?_)).mono ?_
    · have h2 : ∀ y ∈ ([41, 32, 9, 10, 40] : List UInt8), y.toNat < 128 := by decide
      exact h2 b (List.mem_of_getElem? hb)
    · rintro e w' ⟨rfl, rfl⟩
      exact ⟨rfl, ((Keeps.refl _ _).alloc _).alloc _⟩
end Go.Proofs.YtbioecifiogffaaDoor
