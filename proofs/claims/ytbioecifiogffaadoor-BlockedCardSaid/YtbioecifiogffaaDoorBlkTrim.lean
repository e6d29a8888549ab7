/- Plain: a line without blanks at either end, a step at a time. No condition. -/
import Derived.Test.YtbioecifiogffaaDoorBlkSpec
namespace Go.Proofs.YtbioecifiogffaaDoor

def cutR (l : Ln) : Ln := Lib.trimRightS l [32, 9]
theorem cutR_nil : cutR [] = [] := rfl
theorem cutR_snoc (l : Ln) (c : UInt8) : cutR (l ++ [c]) = if bl c then cutR l else l ++ [c] := by
  unfold cutR Lib.trimRightS
  rw [List.reverse_append, List.reverse_singleton, List.singleton_append, List.dropWhile_cons]
  unfold bl
  split <;> simp
theorem cutR_cons (c : UInt8) (l : Ln) : cutR (c :: l) = if cutR l = [] then (if bl c then [] else [c]) else c :: cutR l := by
  induction hn : l.length generalizing l with
  | zero =>
    have : l = [] := List.eq_nil_of_length_eq_zero hn
    subst this
    have := cutR_snoc [] c
    rw [List.nil_append] at this
    rw [this, cutR_nil]
    simp
  | succ n ih =>
    obtain ⟨m, x, rfl⟩ : ∃ m x, l = m ++ [x] := by
      rcases List.eq_nil_or_concat l with h | ⟨m, x, h⟩
      · rw [h] at hn; simp at hn
      · exact ⟨m, x, by rw [h, List.concat_eq_append]⟩
    have hm : m.length = n := by simpa using hn
    rw [show c :: (m ++ [x]) = (c :: m) ++ [x] from rfl, cutR_snoc, cutR_snoc]
    cases hx : bl x with
    | true => simp only [if_true]; exact ih m hm
    | false => simp
theorem trm_cons (c : UInt8) (l : Ln) : trm (c :: l) = if bl c then trm l else cutR (c :: l) := by
  have h : trm (c :: l) = (cutR (c :: l)).dropWhile bl := rfl
  have h2 : trm l = (cutR l).dropWhile bl := rfl
  rw [h, h2, cutR_cons]
  cases hc : bl c with
  | true =>
    split
    · rename_i e; simp [e]
    · simp [hc]
  | false =>
    split
    · simp [hc]
    · simp [hc]
theorem trm_nil : trm [] = [] := rfl
end Go.Proofs.YtbioecifiogffaaDoor
