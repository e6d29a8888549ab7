/- Plain: what the library's functions on bytes give at a pattern of one byte, in the words of this proof. No condition. -/
import Derived.Test.YtbioecifiogffaaDoorInlSpec
import Derived.Test.YtbioecifiogffaaDoorInlRef1
import Derived.Lib.ReplaceLaws
import Derived.Lib.IndexBytes
import Derived.Lib.IndexAny
namespace Go.Proofs.YtbioecifiogffaaDoor

theorem indexByte_fnd (l : List UInt8) (c : UInt8) : Lib.indexByte l c = plc 0 (fnd c l) := by
  induction l with
  | nil => rfl
  | cons b t ih =>
    unfold Lib.indexByte fnd
    by_cases h : b = c
    · simp [h, plc]
    · rw [if_neg (by simpa using h), if_neg h, ih]
      cases fnd c t with
      | none => rfl
      | some k => simp [plc]
theorem index_fnd (l : List UInt8) (c : UInt8) : Lib.index l [c] = plc 0 (fnd c l) := by rw [Lib.index_one, indexByte_fnd]
theorem cut_some {l : List UInt8} {c : UInt8} {k : Nat} (h : fnd c l = some k) : Lib.cut l [c] = (l.take k, l.drop (k + 1), true) := by
  unfold Lib.cut
  rw [index_fnd, h]
  simp [plc]
theorem cut_none {l : List UInt8} {c : UInt8} (h : fnd c l = none) : Lib.cut l [c] = (l, [], false) := by
  unfold Lib.cut
  rw [index_fnd, h]
  simp [plc]
theorem contains_fnd (l : List UInt8) (c : UInt8) : decide (0 ≤ Lib.indexByte l c) = (fnd c l).isSome := by
  rw [indexByte_fnd]
  cases fnd c l <;> simp [plc]
theorem hasPrefix_cons (b c : UInt8) (t : List UInt8) : Lib.hasPrefix (b :: t) [c] = decide (b = c) := by
  unfold Lib.hasPrefix
  by_cases h : b = c
  · simp [h]
  · have : ¬ c = b := fun e => h e.symm
    simp [List.isPrefixOf, h, this]
theorem hasPrefix_nil (c : UInt8) : Lib.hasPrefix [] [c] = false := rfl

theorem spc_none {l : List UInt8} (h : fnd 10 l = none) : spc l = l := by
  induction l with
  | nil => rfl
  | cons b t ih =>
    simp only [fnd] at h
    split at h
    · cases h
    · rename_i hb
      have := ih (by simpa using h)
      unfold spc at this ⊢
      rw [List.map_cons, if_neg hb, this]
theorem spc_some {l : List UInt8} {k : Nat} (h : fnd 10 l = some k) : spc l = l.take k ++ [32] ++ spc (l.drop (k + 1)) := by
  induction l generalizing k with
  | nil => simp [fnd] at h
  | cons b t ih =>
    simp only [fnd] at h
    split at h
    · rename_i hb
      obtain rfl : 0 = k := by simpa using h
      simp [spc, hb]
    · rename_i hb
      simp only [Option.map_eq_some_iff] at h
      obtain ⟨m, hm, rfl⟩ := h
      have := ih hm
      have e : spc (b :: t) = b :: spc t := by simp [spc, hb]
      rw [e, this]
      simp
theorem replaceK_spc (n : Nat) : ∀ l : List UInt8, Lib.count l [10] = n → Lib.replaceK [10] [32] n l = spc l := by
  induction n with
  | zero =>
    intro l h
    cases hf : fnd 10 l with
    | none => rw [spc_none hf]; rfl
    | some k =>
      have := Lib.count_hit (s := l) (sub := [10]) (i := k) (by simp) (by rw [index_fnd, hf]; simp [plc])
      omega
  | succ n ih =>
    intro l h
    cases hf : fnd 10 l with
    | none =>
      have hi : Lib.index l [10] = -1 := by rw [index_fnd, hf]; rfl
      have : Lib.count l [10] = 0 := Lib.count_miss hi
      omega
    | some k =>
      have hi : Lib.index l [10] = (k : Nat) := by rw [index_fnd, hf]; simp [plc]
      have := Lib.count_hit (s := l) (sub := [10]) (i := k) (by simp) hi
      rw [Lib.replaceK_hit _ _ _ _ _ hi, ih _ (by simp at this ⊢; omega), spc_some hf]
      rfl
theorem replaceAll_spc (l : List UInt8) : Lib.replaceAll l [10] [32] = spc l := by
  unfold Lib.replaceAll Lib.replace
  rw [if_neg (by decide)]
  have e : Lib.replaceNum l [10] (-1) = Lib.count l [10] := by unfold Lib.replaceNum; rw [if_pos (.inl (by decide))]
  rw [e]
  exact replaceK_spc _ l rfl

/-- The first byte that ends what a link leads to. -/
def ends (c : UInt8) : Bool := decide (c = 41 ∨ c = 32 ∨ c = 9 ∨ c = 10 ∨ c = 40)
theorem indexAny_dst (l : List UInt8) : (dst l = none ∧ (Lib.indexAny l [41, 32, 9, 10, 40] = -1 ∨ ∃ k : Nat, Lib.indexAny l [41, 32, 9, 10, 40] = k ∧ k < l.length ∧ l[k]? ≠ some 41)) ∨ (∃ k : Nat, dst l = some k ∧ Lib.indexAny l [41, 32, 9, 10, 40] = k ∧ l[k]? = some 41) := by
  induction l with
  | nil => exact .inl ⟨rfl, .inl rfl⟩
  | cons b t ih =>
    unfold Lib.indexAny dst
    by_cases h1 : b = 41
    · subst h1
      exact .inr ⟨0, by simp, by simp, by simp⟩
    · rw [if_neg h1]
      by_cases h2 : b = 32 ∨ b = 9 ∨ b = 10 ∨ b = 40
      · rw [if_pos h2]
        refine .inl ⟨rfl, .inr ⟨0, ?_, by simp, by simpa using h1⟩⟩
        rw [if_pos (by rcases h2 with h | h | h | h <;> simp [h])]
        rfl
      · rw [if_neg h2, if_neg (by simp; exact ⟨h1, fun h => h2 (.inl h), fun h => h2 (.inr (.inl h)), fun h => h2 (.inr (.inr (.inl h))), fun h => h2 (.inr (.inr (.inr h)))⟩)]
        rcases ih with ⟨hd, hi | ⟨k, hi, hk, hn⟩⟩ | ⟨k, hd, hi, hk⟩
        · exact .inl ⟨by rw [hd]; rfl, .inl (by rw [hi]; rfl)⟩
        · refine .inl ⟨by rw [hd]; rfl, .inr ⟨k + 1, ?_, by simp; omega, by simpa using hn⟩⟩
          rw [hi, if_neg (by simp)]
          simp
        · refine .inr ⟨k + 1, by rw [hd]; rfl, ?_, by simpa using hk⟩
          rw [hi, if_neg (by simp)]
          simp
end Go.Proofs.YtbioecifiogffaaDoor
