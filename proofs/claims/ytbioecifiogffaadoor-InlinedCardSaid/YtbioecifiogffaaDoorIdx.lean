/- strings.IndexRune, strings.IndexAny at the signs that end what a link leads to: whatever bytes the text has. Condition: the text has at most 2^24 bytes. -/
import Derived.Test.YtbioecifiogffaaDoorInlLib
import Derived.Test.YtbioecifiogffaaDoorText
import Derived.Test.YtbioecifiogffaaDoorShelf
import Derived.LoopN
import Derived.IntWalk
import Derived.WalkMore
import Derived.Outline
import Derived.BigQuiet
import Derived.Deep.QuietTactic
import Derived.Deep.Draws
import Derived.Deep.LoopGhost
import Derived.Laws.RangeString
import Derived.Laws.Strings3
namespace Go.Proofs.YtbioecifiogffaaDoor
open Go.RowKit

theorem enc_last (r : Nat) (h0 : 128 ≤ r) : ∃ (l : List UInt8) (x : UInt8), Lib.encodeRune (r : Int) = l ++ [x] ∧ 1 ≤ l.length ∧ l.length ≤ 3 ∧ 128 ≤ x.toNat := by
  have hx : 128 ≤ ((128 + (r : Int) % 64).toNat.toUInt8).toNat := by
    have : (128 + (r : Int) % 64).toNat = 128 + r % 64 := by omega
    rw [this]
    have h2 : r % 64 < 64 := Nat.mod_lt _ (by omega)
    simp only [Nat.toUInt8_eq, UInt8.toNat_ofNat']
    omega
  unfold Lib.encodeRune Lib.encodeRuneZ
  rw [if_neg (by omega)]
  split
  · exact ⟨[_], _, rfl, by simp, by simp, hx⟩
  · split
    · exact ⟨[_, _], _, rfl, by simp, by simp, hx⟩
    · split
      · exact ⟨[_, _, _], _, rfl, by simp, by simp, hx⟩
      · exact ⟨[_, _], _, rfl, by simp, by simp, by decide⟩

/-- The signs ) blank tab line feed (. -/
def chs : ByteArray := ⟨#[41, 32, 9, 10, 40]⟩
theorem chs_size : chs.size = 5 := rfl
theorem chs_byte (i : Nat) (h : i < chs.size) : (chs[i]'h).toNat < 128 := by
  have h2 : ∀ y ∈ chs.data.toList, y.toNat < 128 := by decide
  exact h2 _ (by rw [ByteArray.getElem_eq_getElem_data]; exact Array.getElem_mem_toList _)
theorem chs_none (i : Nat) (x : UInt8) (h : 128 ≤ x.toNat) : Lib.indexByte (chs.data.toList.drop i) x = -1 := by
  rw [indexByte_fnd]
  have : fnd x (chs.data.toList.drop i) = none := by
    cases hf : fnd x (chs.data.toList.drop i) with
    | none => rfl
    | some k =>
      exfalso
      have hm : ∀ l : List UInt8, fnd x l ≠ none → x ∈ l := by
        intro l
        induction l with
        | nil => intro h; exact absurd rfl h
        | cons b t ih =>
          intro h
          unfold fnd at h
          split at h
          · rename_i hb; rw [← hb]; exact List.mem_cons_self
          · exact List.mem_cons_of_mem _ (ih (fun e => h (by rw [e]; rfl)))
      have h1 := List.mem_of_mem_drop (hm _ (by rw [hf]; simp))
      have h2 : ∀ y ∈ chs.data.toList, y.toNat < 128 := by decide
      have := h2 x h1
      omega
  rw [this]
  rfl

set_option maxHeartbeats 4000000 in
set_option maxRecDepth 1000000 in
theorem idxRune_hi (r : Nat) (w : World) (h0 : 128 ≤ r) (h1 : r ≤ 1114111) :
    Calls Tryd.prog 127 #[.string chs, .int .i32 r] w fun e w' => e = .returned (.int .i64 (-1)) ∧ Fresh w w' := by
  have g0 : (128 : Int) ≤ (r : Int) := by omega
  have g1 : (r : Int) ≤ 1114111 := by omega
  by_cases h3 : r = 65533
  · subst h3
    have hcb := fun i h => chs_byte i h
    generalize chs = S at *
    have HA := Lib.hid hcb
    clear hcb g0 g1 h0 h1
    go_enter Tryd.func127, Tryd.ntmps127
    go_wp2
    go_loopg [5, 6] S.size (fun g _ _ wx => ∃ i : Nat, i + g = S.size ∧ wx = w.iter S i)
    case atStart => exact ⟨0, by omega, rfl⟩
    case round =>
      obtain ⟨i, hig, rfl⟩ := hrel
      cases gk with
      | zero =>
        obtain rfl : i = S.size := by omega
        have hnx := run_next_end (P := Tryd.prog) w S S.size
        go_wp2
        try rw [Exit.noGoto_ret]
        go_ret
        exact ⟨rfl, (Keeps.refl _ _).alloc _⟩
      | succ g =>
        have hi : i < S.size := by omega
        obtain ⟨x, hx⟩ : ∃ x : UInt8, S[i]'hi = x := ⟨_, rfl⟩
        have hx128 : x.toNat < 128 := by rw [← hx]; exact HA.out i hi
        have hnx := fun ty => run_next_ascii (P := Tryd.prog) w S i ty hi (by rw [hx]; exact hx128)
        rw [hx] at hnx
        have hq : ((x.toNat : Int) == 65533) = false := by rw [beq_eq_false_iff_ne]; omega
        clear hx
        go_wp2
        go_roundg g
        case measure => omega
        case rel => exact ⟨i + 1, by omega, rfl⟩
  · have e3 : ((r : Int) == 65533) = false := by rw [beq_eq_false_iff_ne]; omega
    have henc := encode_eq (r : Int)
    obtain ⟨l, x, hl, hl1, hl2, hx⟩ := enc_last r h0
    rw [hl] at henc
    obtain ⟨RS, hRS⟩ : ∃ RS : ByteArray, ⟨(l ++ [x]).toArray⟩ = RS := ⟨_, rfl⟩
    rw [hRS] at henc
    have hn : RS.size = l.length + 1 := by rw [← hRS]; simp [ByteArray.size]
    have hlast : ∀ h : l.length < RS.size, RS[l.length]'h = x := fun h => by
      subst hRS
      simp [ByteArray.getElem_eq_getElem_data]
    have hs5 := chs_size
    have hn1 : l.length < chs.size := by omega
    obtain ⟨c, hc⟩ : ∃ c, chs[l.length]'hn1 = c := ⟨_, rfl⟩
    have hc2 : c.toNat < 128 := by rw [← hc]; exact chs_byte _ _
    have hi : ∀ W : World, Calls Tryd.prog 98 #[.string (chs.extract (l.length + 1) chs.size), .int .u8 x.toNat] W fun e w' => e = .returned (.int .i64 (-1)) ∧ w' = W := fun W => by
      have h := Tryd.strings_IndexByte (chs.extract (l.length + 1) chs.size) (x.toNat : Int) W
      have e1 : ((x.toNat : Int)).toNat.toUInt8 = x := by simp
      rw [e1, show (chs.extract (l.length + 1) chs.size).data.toList = chs.data.toList.drop (l.length + 1) from by rw [ByteArray.data_extract, Array.toList_extract, List.extract_eq_take_drop]; apply List.take_of_length_le; simp, chs_none _ _ hx] at h
      exact h
    have hq : (((c.toNat : Int)) != (x.toNat : Int)) = true := by rw [bne_iff_ne]; omega
    generalize l.length = n at *
    have hnR : n < RS.size := by omega
    have hlast' : RS[n]'hnR = x := hlast hnR
    have hw1 : IntKind.i64.wrap ((n : Int) + 1) = (n : Int) + 1 := IntWalk.i64_in _ (by omega)
    have hw2 : (0 : Int) ≤ (n : Int) + 1 := by omega
    have hw3 : ((n : Int) + 1).toNat = n + 1 := by omega
    have hw4 : (n : Int) + 1 ≤ (chs.size : Int) := by omega
    have hvr := fun W : World => Tryd.utf8_ValidRune (r : Int) W
    generalize Lib.validRune (r : Int) = vb at hvr
    have HI := Lib.hid hi
    have HV := Lib.hid hvr
    generalize chs = S at *
    have hnS : (n : Int) < (S.size : Int) := by omega
    clear h3 hl hRS hi hlast hvr hs5
    cases vb with
    | false =>
      go_enter Tryd.func127, Tryd.ntmps127
      go_wp2_with fail
      refine (HV.out _).mono ?_
      rintro e w' ⟨rfl, rfl⟩
      go_wp2
      go_ret
      exact ⟨rfl, Keeps.refl _ _⟩
    | true =>
      go_enter Tryd.func127, Tryd.ntmps127
      go_wp2_with fail
      refine (HV.out _).mono ?_
      rintro e w' ⟨rfl, rfl⟩
      go_wp2
      go_step3
      go_wp2
      refine wp_loop_rounds 1 ?_
      rw [rounds_succ]
      go_wp2
      try go_step3
      go_wp2
      go_quiet (fail)
      go_wp2
      refine name_world (fun X hX => ?_)
      have hFX : Fresh w' X := by rw [hX]; exact (Keeps.refl _ _).drewN _
      clear hX
      go_quiet ((go_at_call 98; exact Calls.quiet_of_same (HI.out _)))
      have HFX := Lib.hid hFX
      clear hFX
      go_wp2
      rw [Exit.noGoto_ret]
      go_wp2
      rw [Exit.noGoto_ret]
      try go_wp2
      go_ret
      exact ⟨rfl, HFX.out.drewN _⟩
end Go.Proofs.YtbioecifiogffaaDoor
