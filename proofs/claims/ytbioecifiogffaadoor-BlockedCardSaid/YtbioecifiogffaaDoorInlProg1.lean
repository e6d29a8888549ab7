/- inline.escaped and inline.star: what they give, on lists of bytes. Condition: the text has at most 2^40 bytes. -/
import Derived.Test.YtbioecifiogffaaDoorInlRef3
import Derived.Test.YtbioecifiogffaaDoorInlLib
import Derived.Test.YtbioecifiogffaaDoorShelf
namespace Go.Proofs.YtbioecifiogffaaDoor
open Go.RowKit

theorem sgn_index (c : UInt8) : decide (0 ≤ Lib.indexByte [33, 34, 35, 36, 37, 38, 39, 40, 41, 42, 43, 44, 45, 46, 47, 58, 59, 60, 61, 62, 63, 64, 91, 92, 93, 94, 95, 96, 123, 124, 125, 126] c) = sgn c := by
  have h : ∀ n : Fin 256, decide (0 ≤ Lib.indexByte [33, 34, 35, 36, 37, 38, 39, 40, 41, 42, 43, 44, 45, 46, 47, 58, 59, 60, 61, 62, 63, 64, 91, 92, 93, 94, 95, 96, 123, 124, 125, 126] (UInt8.ofNat n.val)) = sgn (UInt8.ofNat n.val) := by decide +kernel
  have := h ⟨c.toNat, c.toNat_lt⟩
  simpa using this
theorem wht_index (c : UInt8) : decide (0 ≤ Lib.indexByte [32, 9, 10] c) = wht c := by
  have h : ∀ n : Fin 256, decide (0 ≤ Lib.indexByte [32, 9, 10] (UInt8.ofNat n.val)) = wht (UInt8.ofNat n.val) := by decide +kernel
  have := h ⟨c.toNat, c.toNat_lt⟩
  simpa using this

/-- Is the first byte one that a backslash makes text? -/
def esc : List UInt8 → Bool
  | [] => false
  | c :: _ => sgn c

set_option maxHeartbeats 1000000 in
set_option maxRecDepth 100000 in
theorem escaped_any (s : ByteArray) (w : World) : Calls Tryd.prog 77 #[.string s] w fun e w' => e = .returned (.bool (esc s.data.toList)) ∧ Fresh w w' := by
  by_cases h0 : 0 < s.size
  · have hd := drop_lt h0
    rw [List.drop_zero] at hd
    obtain ⟨R, hR⟩ : ∃ R, R = esc s.data.toList := ⟨_, rfl⟩
    rw [← hR]
    have hi := fun W : World => Tryd.strings_IndexByte ⟨#[33, 34, 35, 36, 37, 38, 39, 40, 41, 42, 43, 44, 45, 46, 47, 58, 59, 60, 61, 62, 63, 64, 91, 92, 93, 94, 95, 96, 123, 124, 125, 126]⟩ ((s[0]'h0).toNat : Int) W
    have hne : s.toList.isEmpty = false := by rw [ByteArray.toList_eq, hd]; rfl
    have hr : R = sgn (s[0]'h0) := by rw [hR, hd]; rfl
    have HR := Lib.hid hr
    have HI := Lib.hid hi
    clear hd hR hi hr
    go_enter Tryd.func77, Tryd.ntmps77
    go_wp2_with (go_at_call 98; refine (HI.out _).mono ?_)
    go_ret
    exact ⟨by rw [show R = _ from HR.out, ← sgn_index]; rfl, Keeps.refl _ _⟩
  · have hs : s.data.toList = [] := by
      have h1 : s.size = 0 := by omega
      have : s.data.toList.length = 0 := by simpa using h1
      exact List.eq_nil_of_length_eq_zero this
    have hse : s = ⟨#[]⟩ := by apply ByteArray.ext; apply Array.ext'; rw [hs]
    subst hse
    go_enter Tryd.func77, Tryd.ntmps77
    go_wp2
    go_ret
    exact ⟨rfl, Keeps.refl _ _⟩
end Go.Proofs.YtbioecifiogffaaDoor
