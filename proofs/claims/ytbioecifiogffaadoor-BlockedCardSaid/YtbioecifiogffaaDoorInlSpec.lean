/- What stands in a leaf, on lists of bytes, with no program in sight: the tokens, the events. No condition. -/
import Derived.Test.YtbioecifiogffaaDoorProg
import Derived.WalkKit
namespace Go.Proofs.YtbioecifiogffaaDoor

/-- An event. -/
structure Ev where
  kind : Int
  fin : Bool
  level : Int
  text : List UInt8
def Ev.cells (e : Ev) : List Value := [.int .i64 e.kind, .bool e.fin, .int .i64 e.level, .string ⟨e.text.toArray⟩]
def evCells (l : List Ev) : List Value := l.flatMap Ev.cells
theorem evCells_nil : evCells [] = [] := rfl
theorem evCells_append (a b : List Ev) : evCells (a ++ b) = evCells a ++ evCells b := by simp [evCells]
theorem evCells_one (e : Ev) : evCells [e] = e.cells := by simp [evCells]
theorem evCells_length (l : List Ev) : (evCells l).length = l.length * 4 := by
  induction l with
  | nil => rfl
  | cons e r ih =>
    have : evCells (e :: r) = e.cells ++ evCells r := by simp [evCells]
    rw [this, List.length_append, ih]
    simp [Ev.cells]
    omega
theorem evCells_get (l : List Ev) (j : Nat) (e : Ev) (h : l[j]? = some e) : (evCells l)[j * 4]? = some (.int .i64 e.kind) ∧ (evCells l)[j * 4 + 1]? = some (.bool e.fin) ∧ (evCells l)[j * 4 + 2]? = some (.int .i64 e.level) ∧ (evCells l)[j * 4 + 3]? = some (.string ⟨e.text.toArray⟩) := by
  induction l generalizing j with
  | nil => simp at h
  | cons x r ih =>
    have e1 : evCells (x :: r) = .int .i64 x.kind :: .bool x.fin :: .int .i64 x.level :: .string ⟨x.text.toArray⟩ :: evCells r := by simp [evCells, Ev.cells]
    rw [e1]
    cases j with
    | zero =>
      obtain rfl : x = e := by simpa using h
      simp
    | succ j =>
      have := ih j (by simpa using h)
      have a0 : (j + 1) * 4 = j * 4 + 4 := by omega
      rw [a0]
      simpa using this
theorem evCells_one' (l : List Ev) : ∀ u ∈ evCells l, u.oneCell' = true := by
  intro u hu
  simp only [evCells, List.mem_flatMap, Ev.cells] at hu
  obtain ⟨e, _, he⟩ := hu
  simp at he
  rcases he with rfl | rfl | rfl | rfl <;> rfl

/-- The first place of a byte. -/
def fnd (c : UInt8) : List UInt8 → Option Nat
  | [] => none
  | b :: t => if b = c then some 0 else (fnd c t).map (· + 1)
theorem fnd_lt {c : UInt8} {l : List UInt8} {k : Nat} (h : fnd c l = some k) : k < l.length := by
  induction l generalizing k with
  | nil => simp [fnd] at h
  | cons b t ih =>
    simp only [fnd] at h
    split at h
    · simp at h; simp; omega
    · simp only [Option.map_eq_some_iff] at h
      obtain ⟨m, hm, rfl⟩ := h
      have := ih hm
      simp
      omega

/-- Is it one of the signs that a backslash makes text? -/
def sgn (c : UInt8) : Bool := decide ((33 ≤ c.toNat ∧ c.toNat ≤ 47) ∨ (58 ≤ c.toNat ∧ c.toNat ≤ 64) ∨ (91 ≤ c.toNat ∧ c.toNat ≤ 96) ∨ (123 ≤ c.toNat ∧ c.toNat ≤ 126))
/-- A space, a tab or a line feed. -/
def wht (c : UInt8) : Bool := c = 32 || c = 9 || c = 10
/-- Spaces for line feeds. -/
def spc (l : List UInt8) : List UInt8 := l.map fun c => if c = 10 then 32 else c

/-- Where what a link leads to ends. -/
def dst : List UInt8 → Option Nat
  | [] => none
  | c :: r => if c = 41 then some 0 else if c = 32 ∨ c = 9 ∨ c = 10 ∨ c = 40 then none else (dst r).map (· + 1)
theorem dst_lt {l : List UInt8} {k : Nat} (h : dst l = some k) : k < l.length := by
  induction l generalizing k with
  | nil => simp [dst] at h
  | cons b t ih =>
    simp only [dst] at h
    split at h
    · simp at h; simp; omega
    · split at h
      · simp at h
      · simp only [Option.map_eq_some_iff] at h
        obtain ⟨m, hm, rfl⟩ := h
        have := ih hm
        simp
        omega

/-- The link in what follows an opening bracket: where the closing one stands; how long what it leads to is. -/
def lnk (t : List UInt8) : Option (Nat × Nat) :=
  match fnd 93 t with
  | none => none
  | some k =>
    if (fnd 91 (t.take k)).isSome then none
    else match t.drop (k + 1) with
      | [] => none
      | c :: r => if c = 40 then (dst r).map fun m => (k, m) else none

/-- How many bytes are passed behind a byte, on the way to a star's partner. -/
def skp (b : UInt8) (t : List UInt8) : Nat :=
  if b = 92 then (match t with | [] => 0 | c :: _ => if sgn c || c = 10 then 1 else 0)
  else if b = 96 then (match fnd 96 t with | some k => k + 1 | none => 0)
  else 0
/-- The first star that counts. -/
def scn : Nat → List UInt8 → Option Nat
  | 0, _ => none
  | _ + 1, [] => none
  | n + 1, b :: t => if b = 42 then some 0 else (scn n (t.drop (skp b t))).map (· + (skp b t + 1))
theorem scn_lt {n : Nat} {l : List UInt8} {k : Nat} (h : scn n l = some k) : k < l.length := by
  induction n generalizing l k with
  | zero => simp [scn] at h
  | succ n ih =>
    cases l with
    | nil => simp [scn] at h
    | cons b t =>
      simp only [scn] at h
      split at h
      · simp at h; simp; omega
      · simp only [Option.map_eq_some_iff] at h
        obtain ⟨m, hm, rfl⟩ := h
        have := ih hm
        rw [List.length_drop] at this
        simp
        omega
/-- The partner of a star, in what follows it. -/
def str (t : List UInt8) : Option Nat :=
  match scn (t.length + 1) t with
  | none => none
  | some n => if n = 0 ∨ wht (t.headD 0) ∨ wht (t.getD (n - 1) 0) then none else some n
theorem str_lt {t : List UInt8} {n : Nat} (h : str t = some n) : n < t.length := by
  unfold str at h
  split at h
  · simp at h
  · rename_i m hm
    split at h
    · simp at h
    · simp at h; subst h; exact scn_lt hm

/-- What stands at a place. -/
inductive Tok where
  | ch (b : UInt8)
  | one (e : Ev)
  | sub (e : Ev) (s : List UInt8) (ins : Bool)

def tokAt (ins : Bool) (b : UInt8) (t : List UInt8) : Tok × Nat :=
  if b = 92 then
    match t with
    | [] => (.ch b, 0)
    | c :: _ => if sgn c then (.ch c, 1) else if c = 10 then (.one ⟨11, false, 0, []⟩, 1) else (.ch b, 0)
  else if b = 10 then (.one ⟨10, false, 0, []⟩, 0)
  else if b = 96 then
    match fnd 96 t with
    | some k => (.one ⟨9, false, 0, spc (t.take k)⟩, k + 1)
    | none => (.ch b, 0)
  else if b = 91 then
    match lnk t with
    | some (k, m) => (.sub ⟨7, false, 0, (t.drop (k + 2)).take m⟩ (t.take k) ins, k + m + 3)
    | none => (.ch b, 0)
  else if b = 42 then
    if ins then (.ch b, 0) else
    match str t with
    | some n => (.sub ⟨6, false, 0, []⟩ (t.take n) true, n + 1)
    | none => (.ch b, 0)
  else (.ch b, 0)

def flushE (p : List UInt8) : List Ev := if p = [] then [] else [⟨8, false, 0, p⟩]
theorem flushE_nil : flushE [] = [] := rfl
theorem flushE_some {p : List UInt8} (h : p ≠ []) : flushE p = [⟨8, false, 0, p⟩] := by simp [flushE, h]
def endE (e : Ev) : Ev := ⟨e.kind, true, 0, []⟩

/-- The events of a part, behind text that has gathered. -/
def inlF : Nat → Bool → List UInt8 → List UInt8 → List Ev
  | 0, _, _, p => flushE p
  | _ + 1, _, [], p => flushE p
  | n + 1, ins, b :: t, p =>
    match tokAt ins b t with
    | (.ch c, k) => inlF n ins (t.drop k) (p ++ [c])
    | (.one e, k) => flushE p ++ e :: inlF n ins (t.drop k) []
    | (.sub e s i, k) => flushE p ++ e :: (inlF n i s [] ++ endE e :: inlF n ins (t.drop k) [])

/-- A token that is events ends in one that is no text; what it holds is shorter. -/
theorem lnk_lt {t : List UInt8} {k m : Nat} (h : lnk t = some (k, m)) : k + m + 2 < t.length := by
  unfold lnk at h
  split at h
  · simp at h
  · rename_i k' hk
    split at h
    · simp at h
    · split at h
      · simp at h
      · rename_i c r hd
        split at h
        · simp only [Option.map_eq_some_iff, Prod.mk.injEq] at h
          obtain ⟨m', hm, rfl, rfl⟩ := h
          have h1 := dst_lt hm
          have h2 : (t.drop (k' + 1)).length = r.length + 1 := by rw [hd]; rfl
          rw [List.length_drop] at h2
          omega
        · simp at h

theorem tokAt_one {ins : Bool} {b : UInt8} {t : List UInt8} {e : Ev} {k : Nat} (h : tokAt ins b t = (.one e, k)) : e.kind ≠ 8 ∧ k ≤ t.length := by
  unfold tokAt at h
  repeat' split at h
  all_goals (try simp only [Prod.mk.injEq, Tok.one.injEq, reduceCtorEq, false_and] at h)
  · obtain ⟨rfl, rfl⟩ := h; simp
  · obtain ⟨rfl, rfl⟩ := h; simp
  · rename_i hk
    obtain ⟨rfl, rfl⟩ := h
    exact ⟨by simp, fnd_lt hk⟩
theorem tokAt_sub {ins : Bool} {b : UInt8} {t : List UInt8} {e : Ev} {s : List UInt8} {i : Bool} {k : Nat} (h : tokAt ins b t = (.sub e s i, k)) : e.kind ≠ 8 ∧ s.length < k ∧ k ≤ t.length := by
  unfold tokAt at h
  repeat' split at h
  all_goals (try simp only [Prod.mk.injEq, Tok.sub.injEq, reduceCtorEq, false_and] at h)
  · rename_i hk
    obtain ⟨⟨rfl, rfl, rfl⟩, rfl⟩ := h
    have := lnk_lt hk
    refine ⟨by simp, ?_, by omega⟩
    rw [List.length_take]
    omega
  · rename_i hk
    obtain ⟨⟨rfl, rfl, rfl⟩, rfl⟩ := h
    have := str_lt hk
    refine ⟨by simp, ?_, by omega⟩
    rw [List.length_take]
    omega

/-- How many events there are. -/
theorem inlF_length (n : Nat) (ins : Bool) (s p : List UInt8) : (inlF n ins s p).length ≤ 2 * s.length + (flushE p).length := by
  induction n generalizing ins s p with
  | zero => simp [inlF]
  | succ n ih =>
    cases s with
    | nil => simp [inlF]
    | cons b t =>
      have hf : ∀ q : List UInt8, (flushE q).length ≤ 1 := fun q => by unfold flushE; split <;> simp
      unfold inlF
      split
      · rename_i c k hk
        have h1 := ih ins (t.drop k) (p ++ [c])
        have h2 := hf (p ++ [c])
        rw [List.length_drop] at h1
        simp only [List.length_cons]
        omega
      · rename_i e k hk
        have h1 := ih ins (t.drop k) []
        rw [List.length_drop, flushE_nil] at h1
        simp only [List.length_append, List.length_cons, List.length_nil] at h1 ⊢
        omega
      · rename_i e s i k hk
        have h1 := ih ins (t.drop k) []
        have h2 := ih i s []
        obtain ⟨_, h3, h4⟩ := tokAt_sub hk
        rw [List.length_drop, flushE_nil] at h1
        rw [flushE_nil] at h2
        simp only [List.length_append, List.length_cons, List.length_nil] at h1 h2 ⊢
        omega
end Go.Proofs.YtbioecifiogffaaDoor
