/- Plain: what makes a text regular, by the program's way and by the document's: the same. No program in sight, no condition. -/
import Derived.Test.YtbioecifiogffaaDoorBase
import Derived.Lib.RuneBytes
import Derived.Lib.RuneLoops
namespace Go.Proofs.YtbioecifiogffaaDoor
open Go.RowKit

/-- The runes of a text from a place on. -/
def runesAt (s : ByteArray) : Nat → Nat → List Nat
  | 0, _ => []
  | f + 1, pos => if pos < s.size then (Utf8.decode s pos).1 :: runesAt s f (pos + (Utf8.decode s pos).2) else []

/-- The program's way: cr: a carriage return waits. -/
def regP : Bool → List Nat → List UInt8
  | cr, [] => if cr then [10] else []
  | cr, r :: rs => (if cr = true ∧ r ≠ 10 then [10] else []) ++ (if r = 13 then [] else if r = 0 then Lib.encodeRune 65533 else Lib.encodeRune r) ++ regP (decide (r = 13)) rs

/-- The document's way. -/
def regR : List Nat → List UInt8
  | [] => []
  | r :: rs => (if r = 0 ∨ r = 65533 then Lib.encodeRune 65533 else if r = 13 ∧ rs.head? = some 10 then [] else if r = 13 then [10] else Lib.encodeRune r) ++ regR rs

def regular (s : ByteArray) : List UInt8 := regR (runesAt s s.size 0)

theorem regP_eq (rs : List Nat) : regP false rs = regR rs ∧ regP true rs = (if rs.head? = some 10 then [] else [10]) ++ regR rs := by
  induction rs with
  | nil => simp [regP, regR]
  | cons r rs ih =>
    obtain ⟨h1, h2⟩ := ih
    by_cases h13 : r = 13
    · subst h13
      by_cases hh : rs.head? = some 10 <;> simp [regP, regR, h2, hh]
    · by_cases h0 : r = 0
      · subst h0
        simp [regP, regR, h1]
      · by_cases h3 : r = 65533
        · subst h3
          simp [regP, regR, h1]
        · by_cases h10 : r = 10
          · subst h10
            simp [regP, regR, h1]
          · simp [regP, regR, h1, h13, h0, h3, h10]

theorem regular_P (s : ByteArray) : regP false (runesAt s s.size 0) = regular s := (regP_eq _).1

theorem encodeRune_le (r : Int) : (Lib.encodeRune r).length ≤ 4 := by
  have := Lib.runeCells_le r
  rw [Lib.runeCells_length] at this
  exact this.2

theorem regR_length (rs : List Nat) : (regR rs).length ≤ 4 * rs.length := by
  induction rs with
  | nil => simp [regR]
  | cons r rs ih =>
    simp only [regR, List.length_append, List.length_cons]
    have h1 := encodeRune_le r
    have h2 := encodeRune_le 65533
    split
    · omega
    · split
      · simp; omega
      · split
        · simp; omega
        · omega

theorem runesAt_length (s : ByteArray) (f : Nat) : ∀ pos, (runesAt s f pos).length ≤ f := by
  induction f with
  | zero => intro pos; simp [runesAt]
  | succ f ih =>
    intro pos
    simp only [runesAt]
    split
    · have := ih (pos + (Utf8.decode s pos).2)
      simp; omega
    · simp

theorem regular_length (s : ByteArray) : (regular s).length ≤ 4 * s.size := by
  have h1 := regR_length (runesAt s s.size 0)
  have h2 := runesAt_length s s.size 0
  unfold regular
  omega

theorem runesAt_end (s : ByteArray) (f pos : Nat) (h : ¬ pos < s.size) : runesAt s f pos = [] := by
  cases f <;> simp [runesAt, h]

theorem runesAt_step (s : ByteArray) (f pos : Nat) (h : pos < s.size) : runesAt s (f + 1) pos = (Utf8.decode s pos).1 :: runesAt s f (pos + (Utf8.decode s pos).2) := by
  simp [runesAt, h]

theorem width_pos (s : ByteArray) (pos : Nat) (h : pos < s.size) : 1 ≤ (Utf8.decode s pos).2 := by
  by_cases ha : (s[pos]'h).toNat < 128
  · rw [decode_ascii s pos h ha]
    exact Nat.le_refl _
  · exact (decode_high s pos h (by omega)).2

/-- An ASCII rune is its byte. -/
theorem decode_small (s : ByteArray) (pos : Nat) (h : pos < s.size) (hr : (Utf8.decode s pos).1 < 128) : (s[pos]'h).toNat = (Utf8.decode s pos).1 ∧ (Utf8.decode s pos).2 = 1 := by
  by_cases ha : (s[pos]'h).toNat < 128
  · rw [decode_ascii s pos h ha]
    exact ⟨rfl, rfl⟩
  · have := (decode_high s pos h (by omega)).1
    omega

/-- Is the next rune a line feed? As the next byte says. -/
theorem head_runesAt (s : ByteArray) (f pos : Nat) (hf : s.size ≤ pos + f) : (runesAt s f pos).head? = some 10 ↔ ∃ h : pos < s.size, (s[pos]'h).toNat = 10 := by
  by_cases h : pos < s.size
  · obtain ⟨k, rfl⟩ : ∃ k, f = k + 1 := ⟨f - 1, by omega⟩
    rw [runesAt_step s k pos h]
    simp only [List.head?_cons, Option.some.injEq]
    constructor
    · intro e
      exact ⟨h, by rw [(decode_small s pos h (by omega)).1, e]⟩
    · rintro ⟨_, e⟩
      rw [decode_ascii s pos h (by omega)]
      exact e
  · rw [runesAt_end s f pos h]
    simp [h]

theorem ba_append (a b : List UInt8) : (⟨a.toArray⟩ : ByteArray) ++ ⟨b.toArray⟩ = ⟨(a ++ b).toArray⟩ := by
  apply ByteArray.ext
  simp

theorem encode_eq (r : Int) : Utf8.encode r = ⟨(Lib.encodeRune r).toArray⟩ := by
  by_cases h1 : 0 ≤ r ∧ r ≤ 127
  · have hv : Utf8.valid r = true := by simp [Utf8.valid]; omega
    rw [Lib.encodeRune, Lib.encodeRuneZ_one h1.1 h1.2]
    have : r.toNat < 128 := by omega
    simp [Utf8.encode, hv, this, UInt8.ofNat]
  · by_cases h2 : 128 ≤ r ∧ r ≤ 2047
    · have hv : Utf8.valid r = true := by simp [Utf8.valid]; omega
      rw [Lib.encodeRune, Lib.encodeRuneZ_two h2.1 h2.2]
      have a : ¬ r.toNat < 128 := by omega
      have b : r.toNat < 2048 := by omega
      have e1 : 192 + r.toNat / 64 = (192 + r / 64).toNat := by omega
      have e2 : 128 + r.toNat % 64 = (128 + r % 64).toNat := by omega
      simp [Utf8.encode, hv, a, b, e1, e2]
    · by_cases h3 : (2048 ≤ r ∧ r < 55296) ∨ (57343 < r ∧ r ≤ 65535)
      · have hv : Utf8.valid r = true := by simp [Utf8.valid]; omega
        rw [Lib.encodeRune, Lib.encodeRuneZ_three h3]
        have a : ¬ r.toNat < 128 := by omega
        have b : ¬ r.toNat < 2048 := by omega
        have c : r.toNat < 65536 := by omega
        have e1 : 224 + r.toNat / 4096 = (224 + r / 4096).toNat := by omega
        have e2 : 128 + r.toNat / 64 % 64 = (128 + r / 64 % 64).toNat := by omega
        have e3 : 128 + r.toNat % 64 = (128 + r % 64).toNat := by omega
        simp [Utf8.encode, hv, a, b, c, e1, e2, e3]
      · by_cases h4 : 65536 ≤ r ∧ r ≤ 1114111
        · have hv : Utf8.valid r = true := by simp [Utf8.valid]; omega
          rw [Lib.encodeRune, Lib.encodeRuneZ_four h4.1 h4.2]
          have a : ¬ r.toNat < 128 := by omega
          have b : ¬ r.toNat < 2048 := by omega
          have c : ¬ r.toNat < 65536 := by omega
          have e0 : 240 + r.toNat / 262144 = (240 + r / 262144).toNat := by omega
          have e1 : 128 + r.toNat / 4096 % 64 = (128 + r / 4096 % 64).toNat := by omega
          have e2 : 128 + r.toNat / 64 % 64 = (128 + r / 64 % 64).toNat := by omega
          have e3 : 128 + r.toNat % 64 = (128 + r % 64).toNat := by omega
          simp [Utf8.encode, hv, a, b, c, e0, e1, e2, e3]
        · have hb : r < 0 ∨ (55296 ≤ r ∧ r ≤ 57343) ∨ 1114111 < r := by omega
          have hv : Utf8.valid r = false := by
            simp [Utf8.valid]
            constructor <;> intro <;> omega
          rw [Lib.encodeRune, Lib.encodeRuneZ_bad hb]
          simp [Utf8.encode, hv, Utf8.runeError]
end Go.Proofs.YtbioecifiogffaaDoor
