/- Plain: strings.Split at a line feed gives the lines. No condition. -/
import Derived.Test.YtbioecifiogffaaDoorBlkSpec
import Derived.Test.YtbioecifiogffaaDoorInlLib
import Derived.Lib.Split
namespace Go.Proofs.YtbioecifiogffaaDoor

def splA : Ln → List UInt8 → List Ln
  | a, [] => [a]
  | a, c :: t => if c = 10 then a :: splA [] t else splA (a ++ [c]) t
theorem splA_ne (a : Ln) (s : List UInt8) : splA a s ≠ [] := by
  induction s generalizing a with
  | nil => simp [splA]
  | cons c t ih => unfold splA; split <;> simp [ih]
/-- The list without its last element, where this is empty. -/
def offE (l : List Ln) : List Ln := if l.getLast? = some [] then l.dropLast else l
theorem lns_spl (a : Ln) (s : List UInt8) : offE (splA a s) = lnsA a s := by
  induction s generalizing a with
  | nil => unfold offE splA lnsA; by_cases h : a = [] <;> simp [h]
  | cons c t ih =>
    unfold splA lnsA
    split
    · have h := ih []
      have hne := splA_ne [] t
      unfold offE at h ⊢
      rw [List.getLast?_cons_of_ne_nil hne, List.dropLast_cons_of_ne_nil hne]
      rw [← h]
      split <;> rfl
    · exact ih _
theorem splA_some {k : Nat} {s : List UInt8} (a : Ln) (h : fnd 10 s = some k) : splA a s = (a ++ s.take k) :: splA [] (s.drop (k + 1)) := by
  induction s generalizing a k with
  | nil => simp [fnd] at h
  | cons b t ih =>
    simp only [fnd] at h
    conv => lhs; unfold splA
    split at h
    · rename_i hb
      obtain rfl : 0 = k := by simpa using h
      rw [if_pos hb]
      simp
    · rename_i hb
      simp only [Option.map_eq_some_iff] at h
      obtain ⟨m, hm, rfl⟩ := h
      rw [if_neg hb, ih _ hm]
      simp
theorem splA_none {s : List UInt8} (a : Ln) (h : fnd 10 s = none) : splA a s = [a ++ s] := by
  induction s generalizing a with
  | nil => simp [splA]
  | cons b t ih =>
    simp only [fnd] at h
    unfold splA
    split at h
    · cases h
    · rename_i hb
      rw [if_neg hb, ih _ (by simpa using h)]
      simp
theorem splitK_spl (n : Nat) : ∀ s : List UInt8, Lib.count s [10] = n → Lib.splitK [10] 0 n s = splA [] s := by
  induction n with
  | zero =>
    intro s h
    cases hf : fnd 10 s with
    | none => rw [splA_none _ hf]; rfl
    | some k =>
      have := Lib.count_hit (s := s) (sub := [10]) (i := k) (by simp) (by rw [index_fnd, hf]; simp [plc])
      omega
  | succ n ih =>
    intro s h
    cases hf : fnd 10 s with
    | none =>
      have hi : Lib.index s [10] = -1 := by rw [index_fnd, hf]; rfl
      have : Lib.count s [10] = 0 := Lib.count_miss hi
      omega
    | some k =>
      have hi : Lib.index s [10] = (k : Nat) := by rw [index_fnd, hf]; simp [plc]
      have hc := Lib.count_hit (s := s) (sub := [10]) (i := k) (by simp) hi
      unfold Lib.splitK
      rw [hi, if_neg (by simp), splA_some _ hf, ih _ (by simp at hc ⊢; omega)]
      simp
theorem lns_split (s : List UInt8) : offE (Lib.split s [10]) = lns s := by
  unfold Lib.split
  rw [splitK_spl _ _ rfl]
  exact lns_spl [] s
theorem split_ne (s : List UInt8) : Lib.split s [10] ≠ [] := by
  unfold Lib.split
  rw [splitK_spl _ _ rfl]
  exact splA_ne [] s
end Go.Proofs.YtbioecifiogffaaDoor
