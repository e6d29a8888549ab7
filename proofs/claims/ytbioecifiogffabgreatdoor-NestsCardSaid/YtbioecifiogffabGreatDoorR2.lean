/- Texts of this proof, joined: InlSpec, WrtSpec, BlkSpec, BlkTrim, BlkLen, EvsSpec, Wst, HtmSpec, HtmlL, HtmLib, PlainLaw, PlainLaw2, CutsLaw, PlLaw3, NestLaw. Conditions: as each theorem names them. -/
import Derived.Test.YtbioecifiogffabGreatDoorProg
import Derived.Test.YtbioecifiogffabGreatDoorR1
import Derived.WalkKit
import Derived.Lib.SlTrimSet
import Derived.Lib.ReplaceLaws
import Derived.Lib.IndexBytes
set_option linter.unusedVariables false
set_option linter.unusedSimpArgs false
set_option maxHeartbeats 8000000
set_option maxRecDepth 1000000
namespace Go.Proofs.YtbioecifiogffabGreatDoor
structure Ev where
 kind : Int
 fin : Bool
 level : Int
 text : List UInt8
def Ev.cells (e : Ev) : List Value := [.int .i64 e.kind, .bool e.fin, .int .i64 e.level, .string ⟨e.text.toArray⟩]
def evCells (l : List Ev) : List Value := l.flatMap Ev.cells
theorem evCells_append (a b : List Ev) : evCells (a ++ b) = evCells a ++ evCells b := by simp [evCells]
theorem evCells_one (e : Ev) : evCells [e] = e.cells := by simp [evCells]
theorem evCells_length (l : List Ev) : (evCells l).length = l.length * 4 := by
 induction l with
 | nil => rfl
 | cons e r ih =>
  have : evCells (e :: r) = e.cells ++ evCells r := by simp [evCells]
  rw [this, List.length_append, ih]
  simp [Ev.cells]
  omega
theorem evCells_get (l : List Ev) (j : Nat) (e : Ev) (h : l[j]? = some e) : (evCells l)[j * 4]? = some (.int .i64 e.kind) ∧ (evCells l)[j * 4 + 1]? = some (.bool e.fin) ∧ (evCells l)[j * 4 + 2]? = some (.int .i64 e.level) ∧ (evCells l)[j * 4 + 3]? = some (.string ⟨e.text.toArray⟩) := by
 induction l generalizing j with
 | nil => simp at h
 | cons x r ih =>
  have e1 : evCells (x :: r) = .int .i64 x.kind :: .bool x.fin :: .int .i64 x.level :: .string ⟨x.text.toArray⟩ :: evCells r := by simp [evCells, Ev.cells]
  rw [e1]
  cases j with
  | zero =>
   obtain rfl : x = e := by simpa using h
   simp
  | succ j =>
   have := ih j (by simpa using h)
   have a0 : (j + 1) * 4 = j * 4 + 4 := by omega
   rw [a0]
   simpa using this
def fnd (c : UInt8) : List UInt8 → Option Nat
 | [] => none
 | b :: t => if b = c then some 0 else (fnd c t).map (· + 1)
theorem fnd_lt {c : UInt8} {l : List UInt8} {k : Nat} (h : fnd c l = some k) : k < l.length := by
 induction l generalizing k with
 | nil => simp [fnd] at h
 | cons b t ih =>
  simp only [fnd] at h
  split at h
  ·simp at h; simp; omega
  ·simp only [Option.map_eq_some_iff] at h
   obtain ⟨m, hm, rfl⟩ := h
   have := ih hm
   simp
   omega
def sgn (c : UInt8) : Bool := decide ((33 ≤ c.toNat ∧ c.toNat ≤ 47) ∨ (58 ≤ c.toNat ∧ c.toNat ≤ 64) ∨ (91 ≤ c.toNat ∧ c.toNat ≤ 96) ∨ (123 ≤ c.toNat ∧ c.toNat ≤ 126))
def wht (c : UInt8) : Bool := c = 32 || c = 9 || c = 10
def spc (l : List UInt8) : List UInt8 := l.map fun c => if c = 10 then 32 else c
def dst : List UInt8 → Option Nat
 | [] => none
 | c :: r => if c = 41 then some 0 else if c = 32 ∨ c = 9 ∨ c = 10 ∨ c = 40 then none else (dst r).map (· + 1)
theorem dst_lt {l : List UInt8} {k : Nat} (h : dst l = some k) : k < l.length := by
 induction l generalizing k with
 | nil => simp [dst] at h
 | cons b t ih =>
  simp only [dst] at h
  split at h
  ·simp at h; simp; omega
  ·split at h
   ·simp at h
   ·simp only [Option.map_eq_some_iff] at h
    obtain ⟨m, hm, rfl⟩ := h
    have := ih hm
    simp
    omega
def lnk (t : List UInt8) : Option (Nat × Nat) :=
 match fnd 93 t with
 | none => none
 | some k =>
  if (fnd 91 (t.take k)).isSome then none
  else match t.drop (k + 1) with
   | [] => none
   | c :: r => if c = 40 then (dst r).map fun m => (k, m) else none
def skp (b : UInt8) (t : List UInt8) : Nat :=
 if b = 92 then (match t with | [] => 0 | c :: _ => if sgn c || c = 10 then 1 else 0)
 else if b = 96 then (match fnd 96 t with | some k => k + 1 | none => 0)
 else 0
def scn : Nat → List UInt8 → Option Nat
 | 0, _ => none
 | _ + 1, [] => none
 | n + 1, b :: t => if b = 42 then some 0 else (scn n (t.drop (skp b t))).map (· + (skp b t + 1))
theorem scn_lt {n : Nat} {l : List UInt8} {k : Nat} (h : scn n l = some k) : k < l.length := by
 induction n generalizing l k with
 | zero => simp [scn] at h
 | succ n ih =>
  cases l with
  | nil => simp [scn] at h
  | cons b t =>
   simp only [scn] at h
   split at h
   ·simp at h; simp; omega
   ·simp only [Option.map_eq_some_iff] at h
    obtain ⟨m, hm, rfl⟩ := h
    have := ih hm
    rw [List.length_drop] at this
    simp
    omega
def str (t : List UInt8) : Option Nat :=
 match scn (t.length + 1) t with
 | none => none
 | some n => if n = 0 ∨ wht (t.headD 0) ∨ wht (t.getD (n - 1) 0) then none else some n
theorem str_lt {t : List UInt8} {n : Nat} (h : str t = some n) : n < t.length := by
 unfold str at h
 split at h
 ·simp at h
 ·rename_i m hm
  split at h
  ·simp at h
  ·simp at h; subst h; exact scn_lt hm
inductive Tok where
 | ch (b : UInt8)
 | one (e : Ev)
 | sub (e : Ev) (s : List UInt8) (ins : Bool)
def tokAt (ins : Bool) (b : UInt8) (t : List UInt8) : Tok × Nat :=
 if b = 92 then
  match t with
  | [] => (.ch b, 0)
  | c :: _ => if sgn c then (.ch c, 1) else if c = 10 then (.one ⟨11, false, 0, []⟩, 1) else (.ch b, 0)
 else if b = 10 then (.one ⟨10, false, 0, []⟩, 0)
 else if b = 96 then
  match fnd 96 t with
  | some k => (.one ⟨9, false, 0, spc (t.take k)⟩, k + 1)
  | none => (.ch b, 0)
 else if b = 91 then
  match lnk t with
  | some (k, m) => (.sub ⟨7, false, 0, (t.drop (k + 2)).take m⟩ (t.take k) ins, k + m + 3)
  | none => (.ch b, 0)
 else if b = 42 then
  if ins then (.ch b, 0) else
  match str t with
  | some n => (.sub ⟨6, false, 0, []⟩ (t.take n) true, n + 1)
  | none => (.ch b, 0)
 else (.ch b, 0)
def flushE (p : List UInt8) : List Ev := if p = [] then [] else [⟨8, false, 0, p⟩]
theorem flushE_nil : flushE [] = [] := rfl
theorem flushE_some {p : List UInt8} (h : p ≠ []) : flushE p = [⟨8, false, 0, p⟩] := by simp [flushE, h]
def endE (e : Ev) : Ev := ⟨e.kind, true, 0, []⟩
def inlF : Nat → Bool → List UInt8 → List UInt8 → List Ev
 | 0, _, _, p => flushE p
 | _ + 1, _, [], p => flushE p
 | n + 1, ins, b :: t, p =>
  match tokAt ins b t with
  | (.ch c, k) => inlF n ins (t.drop k) (p ++ [c])
  | (.one e, k) => flushE p ++ e :: inlF n ins (t.drop k) []
  | (.sub e s i, k) => flushE p ++ e :: (inlF n i s [] ++ endE e :: inlF n ins (t.drop k) [])
theorem lnk_lt {t : List UInt8} {k m : Nat} (h : lnk t = some (k, m)) : k + m + 2 < t.length := by
 unfold lnk at h
 split at h
 ·simp at h
 ·rename_i k' hk
  split at h
  ·simp at h
  ·split at h
   ·simp at h
   ·rename_i c r hd
    split at h
    ·simp only [Option.map_eq_some_iff, Prod.mk.injEq] at h
     obtain ⟨m', hm, rfl, rfl⟩ := h
     have h1 := dst_lt hm
     have h2 : (t.drop (k' + 1)).length = r.length + 1 := by rw [hd]; rfl
     rw [List.length_drop] at h2
     omega
    ·simp at h
theorem tokAt_one {ins : Bool} {b : UInt8} {t : List UInt8} {e : Ev} {k : Nat} (h : tokAt ins b t = (.one e, k)) : e.kind ≠ 8 ∧ k ≤ t.length := by
 unfold tokAt at h
 repeat' split at h
 all_goals (try simp only [Prod.mk.injEq, Tok.one.injEq, reduceCtorEq, false_and] at h)
 ·obtain ⟨rfl, rfl⟩ := h; simp
 ·obtain ⟨rfl, rfl⟩ := h; simp
 ·rename_i hk
  obtain ⟨rfl, rfl⟩ := h
  exact ⟨by simp, fnd_lt hk⟩
theorem tokAt_sub {ins : Bool} {b : UInt8} {t : List UInt8} {e : Ev} {s : List UInt8} {i : Bool} {k : Nat} (h : tokAt ins b t = (.sub e s i, k)) : e.kind ≠ 8 ∧ s.length < k ∧ k ≤ t.length := by
 unfold tokAt at h
 repeat' split at h
 all_goals (try simp only [Prod.mk.injEq, Tok.sub.injEq, reduceCtorEq, false_and] at h)
 ·rename_i hk
  obtain ⟨⟨rfl, rfl, rfl⟩, rfl⟩ := h
  have := lnk_lt hk
  refine ⟨by simp, ?_, by omega⟩
  rw [List.length_take]
  omega
 ·rename_i hk
  obtain ⟨⟨rfl, rfl, rfl⟩, rfl⟩ := h
  have := str_lt hk
  refine ⟨by simp, ?_, by omega⟩
  rw [List.length_take]
  omega
theorem inlF_length (n : Nat) (ins : Bool) (s p : List UInt8) : (inlF n ins s p).length ≤ 2 * s.length + (flushE p).length := by
 induction n generalizing ins s p with
 | zero => simp [inlF]
 | succ n ih =>
  cases s with
  | nil => simp [inlF]
  | cons b t =>
   have hf : ∀ q : List UInt8, (flushE q).length ≤ 1 := fun q => by unfold flushE; split <;> simp
   unfold inlF
   split
   ·rename_i c k hk
    have h1 := ih ins (t.drop k) (p ++ [c])
    have h2 := hf (p ++ [c])
    rw [List.length_drop] at h1
    simp only [List.length_cons]
    omega
   ·rename_i e k hk
    have h1 := ih ins (t.drop k) []
    rw [List.length_drop, flushE_nil] at h1
    simp only [List.length_append, List.length_cons, List.length_nil] at h1 ⊢
    omega
   ·rename_i e s i k hk
    have h1 := ih ins (t.drop k) []
    have h2 := ih i s []
    obtain ⟨_, h3, h4⟩ := tokAt_sub hk
    rw [List.length_drop, flushE_nil] at h1
    rw [flushE_nil] at h2
    simp only [List.length_append, List.length_cons, List.length_nil] at h1 h2 ⊢
    omega
end Go.Proofs.YtbioecifiogffabGreatDoor
namespace Go.Proofs.YtbioecifiogffabGreatDoor
structure Snk where
 takes : List Int
 pos : Nat
 failAt : Int
 lieAt : Int
 lie : Int
 offers : Nat
 most : Nat
 none : Bool
 got : List UInt8
def Snk.cnt (s : Snk) (m : Nat) : Nat := if s.takes = [] then m else min m (max 1 (s.takes.getD (s.pos % s.takes.length) 0)).toNat
def Snk.took (s : Snk) (b : List UInt8) : Snk :=
 { s with offers := s.offers + 1, most := max s.most b.length, none := s.none || decide (b = []), pos := if s.takes = [] then s.pos else s.pos + 1, got := s.got ++ b.take (s.cnt b.length) }
def Snk.fails (s : Snk) : Bool := decide (((s.offers + 1 : Nat) : Int) ≠ s.lieAt) && decide (((s.offers + 1 : Nat) : Int) = s.failAt)
def Snk.says (s : Snk) (m : Nat) : Int := if ((s.offers + 1 : Nat) : Int) = s.lieAt then s.lie else (s.cnt m : Nat)
theorem Snk.cnt_le (s : Snk) (m : Nat) : s.cnt m ≤ m := by unfold Snk.cnt; split <;> omega
theorem Snk.cnt_pos (s : Snk) (m : Nat) (h : 0 < m) : 0 < s.cnt m := by
 unfold Snk.cnt
 split
 ·exact h
 ·have : 1 ≤ (max 1 (s.takes.getD (s.pos % s.takes.length) 0)).toNat := by omega
  omega
inductive WEnd where
 | fine
 | sink
 | write
deriving DecidableEq
def offer (b : List UInt8) (n : Nat) : Option Snk → WEnd × List UInt8 × Nat × Option Snk
 | none => (.fine, b.drop (min b.length 16), n + min b.length 16, none)
 | some s =>
  if s.fails then (.write, b, n, some (s.took (b.take 16)))
  else if s.says (min b.length 16) < 1 ∨ ((min b.length 16 : Nat) : Int) < s.says (min b.length 16) then (.sink, b, n, some (s.took (b.take 16)))
  else (.fine, b.drop (s.says (min b.length 16)).toNat, n + (s.says (min b.length 16)).toNat, some (s.took (b.take 16)))
def drain (thr : Nat) : Nat → List UInt8 → Nat → Option Snk → WEnd × List UInt8 × Nat × Option Snk
 | 0, b, n, s => (.fine, b, n, s)
 | f + 1, b, n, s =>
  if b.length < thr then (.fine, b, n, s)
  else if (offer b n s).1 = .fine then drain thr f (offer b n s).2.1 (offer b n s).2.2.1 (offer b n s).2.2.2 else offer b n s
def puts : List (List UInt8) → List UInt8 → Nat → Option Snk → WEnd × Nat × Option Snk
 | [], b, n, s => ((drain 1 b.length b n s).1, (drain 1 b.length b n s).2.2)
 | t :: r, b, n, s =>
  if (drain 16 (b ++ t).length (b ++ t) n s).1 = .fine then puts r (drain 16 (b ++ t).length (b ++ t) n s).2.1 (drain 16 (b ++ t).length (b ++ t) n s).2.2.1 (drain 16 (b ++ t).length (b ++ t) n s).2.2.2
  else ((drain 16 (b ++ t).length (b ++ t) n s).1, (drain 16 (b ++ t).length (b ++ t) n s).2.2)
theorem offer_less {b : List UInt8} {n : Nat} {s : Option Snk} (hb : b ≠ []) (h : (offer b n s).1 = .fine) : (offer b n s).2.1.length < b.length ∧ (offer b n s).2.2.1 + (offer b n s).2.1.length = n + b.length := by
 have hl : 0 < b.length := List.length_pos_iff.2 hb
 cases s with
 | none => simp only [offer, List.length_drop]; omega
 | some s =>
  unfold offer at h ⊢
  simp only at h ⊢
  split at h
  ·cases h
  ·rename_i hf
   rw [if_neg hf]
   split at h
   ·cases h
   ·rename_i hs
    rw [if_neg hs]
    simp only [List.length_drop]
    omega
theorem offer_append {b c : List UInt8} {n : Nat} {s : Option Snk} (hb : 16 ≤ b.length) : offer (b ++ c) n s = ((offer b n s).1, (offer b n s).2.1 ++ c, (offer b n s).2.2) := by
 have m1 : min (b ++ c).length 16 = 16 := by rw [List.length_append]; omega
 have m2 : min b.length 16 = 16 := by omega
 have t1 : (b ++ c).take 16 = b.take 16 := List.take_append_of_le_length hb
 cases s with
 | none => simp only [offer, m1, m2, List.drop_append_of_le_length hb]
 | some s =>
  simp only [offer, m1, m2, t1]
  split
  ·rfl
  ·split
   ·rfl
   ·rename_i h
    rw [List.drop_append_of_le_length (by omega)]
theorem drain_fuel (thr : Nat) (ht : 1 ≤ thr) : ∀ (f g : Nat) (b : List UInt8) (n : Nat) (s : Option Snk), b.length ≤ f → b.length ≤ g → drain thr f b n s = drain thr g b n s := by
 intro f
 induction f with
 | zero =>
  intro g b n s h1 h2
  have : b = [] := List.eq_nil_of_length_eq_zero (by omega)
  subst this
  cases g with
  | zero => rfl
  | succ g => unfold drain; rw [if_pos (by simp; omega)]
 | succ f ih =>
  intro g b n s h1 h2
  cases g with
  | zero =>
   have : b = [] := List.eq_nil_of_length_eq_zero (by omega)
   subst this
   unfold drain; rw [if_pos (by simp; omega)]
  | succ g =>
   unfold drain
   split
   ·rfl
   ·rename_i hlt
    split
    ·rename_i hf
     have hl := (offer_less (by intro e; subst e; simp at hlt; omega) hf).1
     exact ih g _ _ _ (by omega) (by omega)
    ·rfl
def fin (r : WEnd × List UInt8 × Nat × Option Snk) : WEnd × Nat × Option Snk := (r.1, r.2.2)
def flush (b : List UInt8) (n : Nat) (s : Option Snk) : WEnd × Nat × Option Snk := fin (drain 1 b.length b n s)
theorem flush_nil (n : Nat) (s : Option Snk) : flush [] n s = (.fine, n, s) := rfl
theorem flush_step {b : List UInt8} {n : Nat} {s : Option Snk} (hb : b ≠ []) :
 flush b n s = if (offer b n s).1 = .fine then flush (offer b n s).2.1 (offer b n s).2.2.1 (offer b n s).2.2.2 else fin (offer b n s) := by
 unfold flush
 obtain ⟨k, hk⟩ : ∃ k, b.length = k + 1 := ⟨b.length - 1, by have := List.length_pos_iff.2 hb; omega⟩
 rw [hk]
 conv => lhs; unfold drain
 rw [if_neg (by omega)]
 split
 ·rename_i hf
  have hl := (offer_less hb hf).1
  rw [drain_fuel 1 (Nat.le_refl _) k _ _ _ _ (by omega) (Nat.le_refl _)]
 ·rfl
theorem drain_append (c : List UInt8) : ∀ (f : Nat) (b : List UInt8) (n : Nat) (s : Option Snk), b.length ≤ f →
 flush (b ++ c) n s = if (drain 16 f b n s).1 = .fine then flush ((drain 16 f b n s).2.1 ++ c) (drain 16 f b n s).2.2.1 (drain 16 f b n s).2.2.2 else fin (drain 16 f b n s) := by
 intro f
 induction f with
 | zero => intro b n s h; rfl
 | succ f ih =>
  intro b n s h
  unfold drain
  split
  ·rfl
  ·rename_i hlt
   have hb : b ≠ [] := by intro e; subst e; simp at hlt
   rw [flush_step (by simp [hb]), offer_append (by omega)]
   simp only
   by_cases hf : (offer b n s).1 = .fine
   ·rw [if_pos hf, if_pos hf]
    have hl := (offer_less hb hf).1
    exact ih _ _ _ (by omega)
   ·rw [if_neg hf, if_neg hf, if_neg hf]
    rfl
theorem puts_flush : ∀ (l : List (List UInt8)) (b : List UInt8) (n : Nat) (s : Option Snk), puts l b n s = flush (b ++ l.flatten) n s := by
 intro l
 induction l with
 | nil => intro b n s; simp only [List.flatten_nil, List.append_nil]; rfl
 | cons t r ih =>
  intro b n s
  unfold puts
  rw [List.flatten_cons, ← List.append_assoc, drain_append r.flatten _ (b ++ t) n s (Nat.le_refl _)]
  split
  ·exact ih _ _ _
  ·rfl
theorem flush_free : ∀ (k : Nat) (b : List UInt8) (n : Nat), b.length ≤ k → flush b n none = (.fine, n + b.length, none) := by
 intro k
 induction k with
 | zero =>
  intro b n h
  have : b = [] := List.eq_nil_of_length_eq_zero (by omega)
  subst this; rfl
 | succ k ih =>
  intro b n h
  by_cases hb : b = []
  ·subst hb; rfl
  ·have hl : 0 < b.length := List.length_pos_iff.2 hb
   rw [flush_step hb]
   simp only [offer, if_true]
   rw [ih _ _ (by rw [List.length_drop]; omega), List.length_drop]
   congr 2
   omega
def Snk.lied (s s' : Snk) : Prop := (s.offers : Int) < s.lieAt ∧ s.lieAt ≤ (s'.offers : Int)
structure Went (b : List UInt8) (n : Nat) (s : Snk) (e : WEnd) (n' : Nat) (s' : Snk) : Prop where
 same : s'.takes = s.takes ∧ s'.failAt = s.failAt ∧ s'.lieAt = s.lieAt ∧ s'.lie = s.lie
 offers : s.offers ≤ s'.offers ∧ (b = [] → s'.offers = s.offers) ∧ (b ≠ [] → s.offers < s'.offers)
 most : s'.most ≤ max s.most 16
 none : s'.none = s.none
 count : n ≤ n' ∧ n' ≤ n + b.length
 fine : e = .fine → n' = n + b.length
 true : ¬ s.lied s' → e ≠ .sink ∧ (∃ m, n' ≤ n + m ∧ m ≤ b.length ∧ s'.got = s.got ++ b.take m) ∧ (e = .fine → s'.got = s.got ++ b) ∧
  (e = .write → s'.failAt = (s'.offers : Int)) ∧ ((s.offers : Int) < s.failAt → s.failAt ≤ (s'.offers : Int) → e = .write)
 lies : s.lied s' → (s.lie < 1 ∨ 16 < s.lie) → e = .sink ∧ (s'.offers : Int) = s.lieAt ∧ ∃ m, n' ≤ n + m ∧ m ≤ b.length ∧ s'.got = s.got ++ b.take m
theorem took_got (s : Snk) (b : List UInt8) : (s.took (b.take 16)).got = s.got ++ b.take (s.cnt (min b.length 16)) := by
 have h := s.cnt_le (min b.length 16)
 unfold Snk.took
 simp only [List.length_take, Nat.min_comm 16]
 rw [List.take_take, Nat.min_eq_left (by omega)]
theorem flush_went : ∀ (k : Nat) (b : List UInt8) (n : Nat) (s : Snk), b.length ≤ k → ∃ e n' s', flush b n (some s) = (e, n', some s') ∧ Went b n s e n' s' := by
 intro k
 induction k with
 | zero =>
  intro b n s h
  have : b = [] := List.eq_nil_of_length_eq_zero (by omega)
  subst this
  exact ⟨.fine, n, s, rfl, ⟨rfl, rfl, rfl, rfl⟩, ⟨Nat.le_refl _, fun _ => rfl, fun h => absurd rfl h⟩, by omega, rfl, ⟨Nat.le_refl _, by simp⟩, fun _ => by simp,
    fun _ => ⟨by simp, ⟨0, by simp, by simp, by simp⟩, by simp, (fun h => by cases h), fun h1 h2 => by omega⟩, fun h => by unfold Snk.lied at h; omega⟩
 | succ k ih =>
  intro b n s h
  by_cases hb : b = []
  ·subst hb; exact ih [] n s (by simp)
  ·have hl : 0 < b.length := List.length_pos_iff.2 hb
   rw [flush_step hb]
   have hm : (s.took (b.take 16)).most ≤ max s.most 16 := by simp only [Snk.took, List.length_take]; omega
   have hn : (s.took (b.take 16)).none = s.none := by
    simp only [Snk.took]
    have : b.take 16 ≠ [] := by
     intro e
     rcases List.take_eq_nil_iff.1 e with h | h
     ·omega
     ·exact hb h
    simp [this]
   have hg := took_got s b
   have hc := s.cnt_le (min b.length 16)
   have hp := s.cnt_pos (min b.length 16) (by omega)
   have ho : (s.took (b.take 16)).offers = s.offers + 1 := rfl
   by_cases h1 : s.fails = true
   ·have e1 : offer b n (some s) = (.write, b, n, some (s.took (b.take 16))) := by simp [offer, h1]
    rw [e1]
    have h2 : ((s.offers + 1 : Nat) : Int) ≠ s.lieAt ∧ ((s.offers + 1 : Nat) : Int) = s.failAt := by simpa [Snk.fails] using h1
    refine ⟨.write, n, s.took (b.take 16), rfl, ⟨rfl, rfl, rfl, rfl⟩, ⟨by omega, fun h => absurd h hb, fun _ => by omega⟩, hm, hn, ⟨Nat.le_refl _, by omega⟩, (fun h => by cases h),
      fun _ => ⟨by simp, ⟨_, by omega, by omega, hg⟩, (fun h => by cases h), fun _ => by rw [ho]; exact h2.2.symm, fun _ _ => rfl⟩, fun h => ?_⟩
    unfold Snk.lied at h
    rw [ho] at h
    omega
   ·by_cases h2 : s.says (min b.length 16) < 1 ∨ ((min b.length 16 : Nat) : Int) < s.says (min b.length 16)
    ·have e1 : offer b n (some s) = (.sink, b, n, some (s.took (b.take 16))) := by simp only [offer]; rw [if_neg h1, if_pos h2]
     rw [e1]
     have h3 : ((s.offers + 1 : Nat) : Int) = s.lieAt := by
      by_cases h3 : ((s.offers + 1 : Nat) : Int) = s.lieAt
      ·exact h3
      ·unfold Snk.says at h2; rw [if_neg h3] at h2; omega
     refine ⟨.sink, n, s.took (b.take 16), rfl, ⟨rfl, rfl, rfl, rfl⟩, ⟨by omega, fun h => absurd h hb, fun _ => by omega⟩, hm, hn, ⟨Nat.le_refl _, by omega⟩, (fun h => by cases h),
       fun h => (h ?_).elim, fun _ _ => ⟨rfl, by rw [ho]; exact h3, _, by omega, by omega, hg⟩⟩
     unfold Snk.lied
     rw [ho]
     omega
    ·have e1 : offer b n (some s) = (.fine, b.drop (s.says (min b.length 16)).toNat, n + (s.says (min b.length 16)).toNat, some (s.took (b.take 16))) := by simp only [offer]; rw [if_neg h1, if_neg h2]
     rw [e1]
     simp only [if_true]
     obtain ⟨j, hj⟩ : ∃ j, (s.says (min b.length 16)).toNat = j := ⟨_, rfl⟩
     have hj1 : 1 ≤ j ∧ j ≤ min b.length 16 := by omega
     rw [hj]
     obtain ⟨e, n', s', hr, w⟩ := ih (b.drop j) (n + j) (s.took (b.take 16)) (by rw [List.length_drop]; omega)
     have wc := w.count
     have wo := w.offers.1
     rw [List.length_drop] at wc
     rw [ho] at wo
     refine ⟨e, n', s', hr, w.same, ⟨by omega, fun h => absurd h hb, fun _ => by omega⟩, (by have := w.most; omega), w.none.trans hn, ⟨by omega, by omega⟩, fun h => by have := w.fine h; rw [List.length_drop] at this; omega, fun h => ?_, fun h hh => ?_⟩
     ·have h3 : ((s.offers + 1 : Nat) : Int) ≠ s.lieAt := fun h3 => h ⟨by omega, by omega⟩
      have h4 : s.says (min b.length 16) = (s.cnt (min b.length 16) : Nat) := by unfold Snk.says; rw [if_neg h3]
      rw [h4, Int.toNat_natCast] at hj
      have h5 : ¬ (s.took (b.take 16)).lied s' := fun h5 => h ⟨by have := h5.1; rw [ho] at this; show (s.offers : Int) < (s.took (b.take 16)).lieAt; omega, h5.2⟩
      obtain ⟨a1, ⟨m, a2, a2', a3⟩, a4, a5, a6⟩ := w.true h5
      rw [hg, hj] at a3 a4
      rw [List.length_drop] at a2'
      refine ⟨a1, ⟨j + m, by omega, by omega, ?_⟩, fun he => ?_, a5, fun h6 h7 => a6 ?_ h7⟩
      ·rw [a3, List.append_assoc, List.take_add]
      ·rw [a4 he, List.append_assoc, List.take_append_drop]
      ·rw [ho]
       show _ < s.failAt
       have : ((s.offers + 1 : Nat) : Int) ≠ s.failAt := fun h8 => h1 (by simp only [Snk.fails, Bool.and_eq_true, decide_eq_true_eq]; exact ⟨h3, h8⟩)
       omega
     ·have h3 : ((s.offers + 1 : Nat) : Int) ≠ s.lieAt := fun h3 => by
       unfold Snk.says at h2
       rw [if_pos h3] at h2
       omega
      have h4 : s.says (min b.length 16) = (s.cnt (min b.length 16) : Nat) := by unfold Snk.says; rw [if_neg h3]
      rw [h4, Int.toNat_natCast] at hj
      obtain ⟨a1, a2, m, a3, a3', a4⟩ := w.lies ⟨by have := h.1; rw [ho]; show _ < s.lieAt; omega, h.2⟩ hh
      rw [List.length_drop] at a3'
      rw [hg, hj] at a4
      exact ⟨a1, a2, j + m, by omega, by omega, by rw [a4, List.append_assoc, List.take_add]⟩
theorem flush_ones : ∀ (j : Nat) (b : List UInt8) (n : Nat) (s : Snk), s.takes = [1] → j ≤ b.length → (∀ i, (s.offers : Int) < i → i ≤ (s.offers + j : Nat) → i ≠ s.failAt ∧ i ≠ s.lieAt) →
 ∃ s', flush b n (some s) = flush (b.drop j) (n + j) (some s') ∧ s'.takes = s.takes ∧ s'.failAt = s.failAt ∧ s'.lieAt = s.lieAt ∧ s'.lie = s.lie ∧ s'.offers = s.offers + j := by
 intro j
 induction j with
 | zero => intro b n s _ _ _; exact ⟨s, by simp, rfl, rfl, rfl, rfl, rfl⟩
 | succ j ih =>
  intro b n s ht hj hi
  have hb : b ≠ [] := by intro e; subst e; simp at hj
  have h0 := hi ((s.offers + 1 : Nat) : Int) (by omega) (by omega)
  have hc : s.cnt (min b.length 16) = 1 := by
   unfold Snk.cnt
   rw [if_neg (by rw [ht]; simp), ht]
   simp [Nat.mod_one]
   omega
  have e1 : offer b n (some s) = (.fine, b.drop 1, n + 1, some (s.took (b.take 16))) := by
   simp only [offer]
   have h1 : s.fails = false := by simp only [Snk.fails, Bool.and_eq_false_iff, decide_eq_false_iff_not]; exact .inr h0.1
   have h2 : s.says (min b.length 16) = 1 := by unfold Snk.says; rw [if_neg h0.2, hc]; rfl
   rw [h1, h2]
   rw [if_neg (by decide), if_neg (by omega)]
   rfl
  rw [flush_step hb, e1]
  simp only [if_true]
  obtain ⟨s', h1, h2, h3, h4, h5, h6⟩ := ih (b.drop 1) (n + 1) (s.took (b.take 16)) ht (by rw [List.length_drop]; omega) (fun i h1 h2 => hi i (by have : (s.took (b.take 16)).offers = s.offers + 1 := rfl; omega) (by have : (s.took (b.take 16)).offers = s.offers + 1 := rfl; omega))
  refine ⟨s', ?_, h2, h3, h4, h5, ?_⟩
  ·rw [h1, List.drop_drop]
   congr 1
   ·congr 1; omega
   ·omega
  ·rw [h6]; show s.offers + 1 + j = _; omega
end Go.Proofs.YtbioecifiogffabGreatDoor
namespace Go.Proofs.YtbioecifiogffabGreatDoor
abbrev Ln := List UInt8
def bl (c : UInt8) : Bool := [(32 : UInt8), 9].contains c
def blank (s : Ln) : Bool := s.all bl
def trm (s : Ln) : Ln := Lib.trimS s [32, 9]
def lnsA : Ln → List UInt8 → List Ln
 | a, [] => if a = [] then [] else [a]
 | a, c :: t => if c = 10 then a :: lnsA [] t else lnsA (a ++ [c]) t
def lns (s : List UInt8) : List Ln := lnsA [] s
def hsh : Ln → Nat
 | [] => 0
 | c :: t => if c = 35 then hsh t + 1 else 0
theorem hsh_le (s : Ln) : hsh s ≤ s.length := by
 induction s with
 | nil => simp [hsh]
 | cons c t ih => unfold hsh; split <;> simp <;> omega
def lvl (s : Ln) : Nat := if hsh s < 1 ∨ 3 < hsh s then 0 else match s.drop (hsh s) with | [] => hsh s | c :: _ => if bl c then hsh s else 0
theorem lvl_le (s : Ln) : lvl s ≤ 3 ∧ (lvl s ≠ 0 → lvl s = hsh s) := by
 unfold lvl
 split
 ·simp
 ·split
  ·exact ⟨by omega, fun _ => rfl⟩
  ·split
   ·exact ⟨by omega, fun _ => rfl⟩
   ·simp
def isFen (s : Ln) : Bool := match s with | 96 :: 96 :: 96 :: _ => true | _ => false
def isQuo (s : Ln) : Bool := match s with | 62 :: _ => true | _ => false
def isItm (s : Ln) : Bool := match s with | 45 :: [] => true | 45 :: c :: _ => bl c | _ => false
def isInd (s : Ln) : Bool := match s with | 32 :: 32 :: _ => true | _ => false
def sta (s : Ln) (d : Nat) : Nat :=
 if isFen s then 2 else if 0 < lvl s then 3 else if isQuo s && decide (d < 3) then 4 else if isItm s && decide (d < 3) then 5 else 0
def fnc : List Ln → List UInt8 × List Ln
 | [] => ([], [])
 | s :: t => if isFen s && blank (s.drop 3) then ([], t) else (s ++ [10] ++ (fnc t).1, (fnc t).2)
def unq (s : Ln) : Ln := match s.drop 1 with | 32 :: t => t | t => t
def qtd : List Ln → List Ln × List Ln
 | [] => ([], [])
 | s :: t => if isQuo s then (unq s :: (qtd t).1, (qtd t).2) else ([], s :: t)
def itm : List Ln → List Ln × List Ln
 | [] => ([], [])
 | s :: t =>
  if blank s then (if (itm t).1 = [] then ([], s :: t) else ([] :: (itm t).1, (itm t).2))
  else if isInd s then (s.drop 2 :: (itm t).1, (itm t).2) else ([], s :: t)
def skb : List Ln → List Ln
 | [] => []
 | s :: t => if blank s then skb t else s :: t
def prg (d : Nat) : List Ln → List Ln × List Ln
 | [] => ([], [])
 | s :: t => if blank s || decide (0 < sta s d) then ([], s :: t) else (trm s :: (prg d t).1, (prg d t).2)
def joinN : List Ln → List UInt8
 | [] => []
 | [s] => s
 | s :: t => s ++ [10] ++ joinN t
def tot (l : List Ln) : Nat := (l.map fun s => s.length + 1).sum
theorem tot_nil : tot [] = 0 := rfl
theorem tot_cons (s : Ln) (t : List Ln) : tot (s :: t) = s.length + 1 + tot t := by simp [tot]
theorem tot_len (l : List Ln) : l.length ≤ tot l := by
 induction l with
 | nil => simp [tot]
 | cons s t ih => rw [tot_cons]; simp; omega
theorem fnc_tot (l : List Ln) : (fnc l).1.length + tot (fnc l).2 ≤ tot l := by
 induction l with
 | nil => simp [fnc, tot]
 | cons s t ih =>
  unfold fnc
  split
  ·rw [tot_cons]; simp
  ·rw [tot_cons]; simp at ih ⊢; omega
theorem unq_len {s : Ln} (h : isQuo s = true) : (unq s).length + 1 ≤ s.length := by
 unfold isQuo at h
 split at h
 ·rename_i t
  unfold unq
  simp only [List.drop_succ_cons, List.drop_zero]
  split
  ·simp
  ·simp
 ·cases h
theorem qtd_tot (l : List Ln) : tot (qtd l).1 + (qtd l).1.length + tot (qtd l).2 ≤ tot l := by
 induction l with
 | nil => simp [qtd, tot]
 | cons s t ih =>
  unfold qtd
  split
  ·rename_i h
   have := unq_len h
   simp only [tot_cons, List.length_cons]
   omega
  ·simp [tot_nil]
theorem itm_tot (l : List Ln) : tot (itm l).1 + tot (itm l).2 ≤ tot l := by
 induction l with
 | nil => simp [itm, tot]
 | cons s t ih =>
  unfold itm
  split
  ·split
   ·simp [tot_nil]
   ·simp only [tot_cons, List.length_nil]; omega
  ·split
   ·simp only [tot_cons, List.length_drop]; omega
   ·simp [tot_nil]
theorem skb_tot (l : List Ln) : tot (skb l) ≤ tot l := by
 induction l with
 | nil => simp [skb]
 | cons s t ih =>
  unfold skb
  split
  ·rw [tot_cons]; omega
  ·exact Nat.le_refl _
theorem prg_tot (d : Nat) (l : List Ln) : tot (prg d l).1 + tot (prg d l).2 ≤ tot l := by
 induction l with
 | nil => simp [prg, tot]
 | cons s t ih =>
  unfold prg
  split
  ·simp [tot_nil]
  ·have h : (trm s).length ≤ s.length := by
    unfold trm Lib.trimS Lib.trimLeftS Lib.trimRightS
    refine Nat.le_trans (List.dropWhile_sublist _).length_le ?_
    rw [List.length_reverse]
    exact Nat.le_trans (List.dropWhile_sublist _).length_le (by simp)
   simp only [tot_cons]
   omega
def lst : Nat → List Ln → List (List Ln) × List Ln
 | 0, l => ([], l)
 | n + 1, l =>
  match skb l with
  | [] => ([], l)
  | s :: t => if isItm s then ((s.drop 2 :: (itm t).1) :: (lst n (itm t).2).1, (lst n (itm t).2).2) else ([], l)
def nbl : List Ln → Nat
 | [] => 0
 | s :: t => if blank s then nbl t + 1 else 0
theorem nbl_le (l : List Ln) : nbl l ≤ l.length := by
 induction l with
 | nil => simp [nbl]
 | cons s t ih => unfold nbl; split <;> simp <;> omega
theorem nbl_skb (l : List Ln) : l.drop (nbl l) = skb l := by
 induction l with
 | nil => rfl
 | cons s t ih =>
  unfold nbl skb
  split
  ·simpa using ih
  ·rfl
theorem nbl_stop {l : List Ln} {s : Ln} {t : List Ln} (h : l.drop (nbl l) = s :: t) : blank s = false := by
 induction l with
 | nil => simp at h
 | cons x r ih =>
  unfold nbl at h
  split at h
  ·exact ih (by simpa using h)
  ·rename_i hb
   simp at h
   rw [← h.1]
   simpa using hb
theorem itm_end {l : List Ln} (h : l.drop (nbl l) = []) : itm l = ([], l) := by
 induction l with
 | nil => rfl
 | cons x r ih =>
  unfold nbl at h
  split at h
  ·rename_i hb
   have := ih (by simpa using h)
   unfold itm
   rw [if_pos hb, this]
   rfl
  ·simp at h
theorem itm_stop {l : List Ln} {s : Ln} {t : List Ln} (h : l.drop (nbl l) = s :: t) (hi : isInd s = false) : itm l = ([], l) := by
 induction l with
 | nil => simp at h
 | cons x r ih =>
  have hs := nbl_stop h
  unfold nbl at h
  split at h
  ·rename_i hb
   have := ih (by simpa using h)
   unfold itm
   rw [if_pos hb, this]
   rfl
  ·rename_i hb
   simp at h
   obtain ⟨rfl, rfl⟩ := h
   unfold itm
   rw [if_neg hb, if_neg (by rw [hi]; decide)]
theorem itm_go {l : List Ln} {s : Ln} {t : List Ln} (h : l.drop (nbl l) = s :: t) (hi : isInd s = true) : itm l = (List.replicate (nbl l) [] ++ (s.drop 2 :: (itm t).1), (itm t).2) := by
 induction l with
 | nil => simp at h
 | cons x r ih =>
  have hs := nbl_stop h
  by_cases hb : blank x
  ·have e : nbl (x :: r) = nbl r + 1 := by simp [nbl, hb]
   rw [e] at h ⊢
   have := ih (by simpa using h)
   conv => lhs; unfold itm
   rw [if_pos hb, this]
   simp [List.replicate_succ]
  ·have e : nbl (x :: r) = 0 := by simp [nbl, hb]
   rw [e] at h ⊢
   simp at h
   obtain ⟨rfl, rfl⟩ := h
   conv => lhs; unfold itm
   rw [if_neg hb, if_pos hi]
   simp
theorem lst_stop {n : Nat} {l : List Ln} (h : l.drop (nbl l) = [] ∨ ∃ s t, l.drop (nbl l) = s :: t ∧ isItm s = false) : lst n l = ([], l) := by
 cases n with
 | zero => rfl
 | succ n =>
  unfold lst
  rw [← nbl_skb]
  rcases h with h | ⟨s, t, h, hi⟩
  ·rw [h]
  ·rw [h]
   simp [hi]
theorem lst_go {n : Nat} {l : List Ln} {s : Ln} {t : List Ln} (h : l.drop (nbl l) = s :: t) (hi : isItm s = true) : lst (n + 1) l = ((s.drop 2 :: (itm t).1) :: (lst n (itm t).2).1, (lst n (itm t).2).2) := by
 conv => lhs; unfold lst
 rw [← nbl_skb, h]
 simp [hi]
theorem tot_drop (l : List Ln) (k : Nat) : tot (l.drop k) ≤ tot l := by
 induction l generalizing k with
 | nil => simp
 | cons s t ih =>
  cases k with
  | zero => simp
  | succ k => have := ih k; rw [tot_cons]; simp; omega
abbrev EvL := Ev × Bool
def bgE (k : Int) : EvL := (⟨k, false, 0, []⟩, false)
def fnE (k : Int) : EvL := (⟨k, true, 0, []⟩, false)
def txE (x : List UInt8) (lf : Bool) : List EvL := if x = [] then [] else [(⟨8, false, 0, x⟩, lf)]
def leafE (k lv : Int) (x : List UInt8) (lf : Bool) : List EvL := (⟨k, false, lv, []⟩, false) :: (txE x lf ++ [(⟨k, true, lv, []⟩, false)])
def blkF : Nat → Nat → List Ln → List EvL
 | 0, _, _ => []
 | _ + 1, _, [] => []
 | n + 1, d, s :: t =>
  if blank s then blkF n d t
  else if sta s d = 2 then leafE 5 0 (fnc t).1 false ++ blkF n d (fnc t).2
  else if sta s d = 3 then leafE 1 (lvl s) (trm (s.drop (lvl s))) true ++ blkF n d t
  else if sta s d = 4 then bgE 2 :: (blkF n (d + 1) (qtd (s :: t)).1 ++ fnE 2 :: blkF n d (qtd (s :: t)).2)
  else if sta s d = 5 then bgE 3 :: ((lst n (s :: t)).1.flatMap (fun l => bgE 4 :: (blkF n (d + 1) l ++ [fnE 4])) ++ fnE 3 :: blkF n d (lst n (s :: t)).2)
  else leafE 0 0 (joinN (trm s :: (prg d t).1)) true ++ blkF n d (prg d t).2
end Go.Proofs.YtbioecifiogffabGreatDoor
namespace Go.Proofs.YtbioecifiogffabGreatDoor
def cutR (l : Ln) : Ln := Lib.trimRightS l [32, 9]
theorem cutR_nil : cutR [] = [] := rfl
theorem cutR_snoc (l : Ln) (c : UInt8) : cutR (l ++ [c]) = if bl c then cutR l else l ++ [c] := by
 unfold cutR Lib.trimRightS
 rw [List.reverse_append, List.reverse_singleton, List.singleton_append, List.dropWhile_cons]
 unfold bl
 split <;> simp
theorem cutR_cons (c : UInt8) (l : Ln) : cutR (c :: l) = if cutR l = [] then (if bl c then [] else [c]) else c :: cutR l := by
 induction hn : l.length generalizing l with
 | zero =>
  have : l = [] := List.eq_nil_of_length_eq_zero hn
  subst this
  have := cutR_snoc [] c
  rw [List.nil_append] at this
  rw [this, cutR_nil]
  simp
 | succ n ih =>
  obtain ⟨m, x, rfl⟩ : ∃ m x, l = m ++ [x] := by
   rcases List.eq_nil_or_concat l with h | ⟨m, x, h⟩
   ·rw [h] at hn; simp at hn
   ·exact ⟨m, x, by rw [h, List.concat_eq_append]⟩
  have hm : m.length = n := by simpa using hn
  rw [show c :: (m ++ [x]) = (c :: m) ++ [x] from rfl, cutR_snoc, cutR_snoc]
  cases hx : bl x with
  | true => simp only [if_true]; exact ih m hm
  | false => simp
theorem trm_cons (c : UInt8) (l : Ln) : trm (c :: l) = if bl c then trm l else cutR (c :: l) := by
 have h : trm (c :: l) = (cutR (c :: l)).dropWhile bl := rfl
 have h2 : trm l = (cutR l).dropWhile bl := rfl
 rw [h, h2, cutR_cons]
 cases hc : bl c with
 | true =>
  split
  ·rename_i e; simp [e]
  ·simp [hc]
 | false =>
  split
  ·simp [hc]
  ·simp [hc]
end Go.Proofs.YtbioecifiogffabGreatDoor
namespace Go.Proofs.YtbioecifiogffabGreatDoor
theorem isItm_len {s : Ln} (h : isItm s = true) : (s.drop 2).length + 1 ≤ s.length := by
 unfold isItm at h
 split at h
 ·simp
 ·simp
 ·cases h
theorem leafE_len (k lv : Int) (x : List UInt8) (lf : Bool) : (leafE k lv x lf).length ≤ 3 := by
 unfold leafE txE
 split <;> simp
theorem lst_sum (n : Nat) (l : List Ln) : ((lst n l).1.map (fun x => 4 * tot x + 4)).sum + 4 * tot (lst n l).2 ≤ 4 * tot l := by
 induction n generalizing l with
 | zero => simp [lst]
 | succ n ih =>
  unfold lst
  have hs := skb_tot l
  split
  ·simp
  ·rename_i s t e
   rw [e, tot_cons] at hs
   split
   ·rename_i hi
    have h1 := isItm_len hi
    have h2 := itm_tot t
    have h3 := ih (itm t).2
    simp only [List.map_cons, List.sum_cons, tot_cons]
    omega
   ·simp
theorem flat_len {α β : Type} (f : α → List β) (m : α → Nat) (h : ∀ a, (f a).length ≤ m a) (l : List α) : (l.flatMap f).length ≤ (l.map m).sum := by
 induction l with
 | nil => simp
 | cons a r ih =>
  rw [List.flatMap_cons, List.length_append, List.map_cons, List.sum_cons]
  have := h a
  omega
theorem sum_less {α : Type} (l : List α) (f : α → Nat) (h : l ≠ []) : (l.map fun x => f x + 2).sum + 2 ≤ (l.map fun x => f x + 4).sum := by
 induction l with
 | nil => exact absurd rfl h
 | cons a r ih =>
  simp only [List.map_cons, List.sum_cons]
  by_cases hr : r = []
  ·subst hr; simp
  ·have := ih hr
   omega
theorem lst_ne {n : Nat} {s : Ln} {t : List Ln} (hb : blank s = false) (hi : isItm s = true) : (lst (n + 1) (s :: t)).1 ≠ [] := by
 have h : (s :: t).drop (nbl (s :: t)) = s :: t := by simp [nbl, hb]
 rw [lst_go h hi]
 simp
theorem sta_five {s : Ln} {d : Nat} (h : sta s d = 5) : isItm s = true ∧ d < 3 := by
 unfold sta at h
 split at h
 ·cases h
 ·split at h
  ·cases h
  ·split at h
   ·cases h
   ·split at h
    ·rename_i h1
     simpa using h1
    ·cases h
theorem sta_four {s : Ln} {d : Nat} (h : sta s d = 4) : isQuo s = true ∧ d < 3 := by
 unfold sta at h
 split at h
 ·cases h
 ·split at h
  ·cases h
  ·split at h
   ·rename_i h1
    simpa using h1
   ·split at h <;> cases h
theorem sta_three {s : Ln} {d : Nat} (h : sta s d = 3) : 1 ≤ lvl s ∧ lvl s ≤ 3 := by
 unfold sta at h
 split at h
 ·cases h
 ·split at h
  ·rename_i h1
   exact ⟨h1, (lvl_le s).1⟩
  ·split at h
   ·cases h
   ·split at h <;> cases h
theorem blkF_len (n : Nat) : ∀ (d : Nat) (l : List Ln), (blkF n d l).length ≤ 4 * tot l := by
 induction n using Nat.strongRecOn with
 | ind n ih =>
 intro d l
 cases n with
 | zero => simp [blkF]
 | succ n =>
  cases l with
  | nil => simp [blkF]
  | cons s t =>
   have ih := ih n (Nat.lt_succ_self n)
   unfold blkF
   rw [tot_cons]
   split
   ·have := ih d t; omega
   ·rename_i hb
    split
    ·have h1 := ih d (fnc t).2
     have h2 := fnc_tot t
     have h3 := leafE_len 5 0 (fnc t).1 false
     rw [List.length_append]
     omega
    ·split
     ·have h1 := ih d t
      have h3 := leafE_len 1 (lvl s) (trm (s.drop (lvl s))) true
      rw [List.length_append]
      omega
     ·split
      ·rename_i h4
       have hq := (sta_four h4).1
       have h1 := ih (d + 1) (qtd (s :: t)).1
       have h2 := ih d (qtd (s :: t)).2
       have h3 := qtd_tot (s :: t)
       have h5 : 1 ≤ (qtd (s :: t)).1.length := by simp [qtd, hq]
       rw [tot_cons] at h3
       simp only [List.length_cons, List.length_append]
       omega
      ·split
       ·rename_i h5
        obtain ⟨hi, -⟩ := sta_five h5
        cases n with
        | zero =>
         simp [lst, blkF]
         omega
        | succ n =>
         have hne := lst_ne (n := n) (t := t) (by simpa using hb) hi
         have h1 := lst_sum (n + 1) (s :: t)
         have h2 := ih d (lst (n + 1) (s :: t)).2
         have h3 := flat_len (fun l => bgE 4 :: (blkF (n + 1) (d + 1) l ++ [fnE 4])) (fun x => 4 * tot x + 2) (fun a => by have := ih (d + 1) a; simp; omega) (lst (n + 1) (s :: t)).1
         have h4 := sum_less (lst (n + 1) (s :: t)).1 (fun x => 4 * tot x) hne
         rw [tot_cons] at h1
         simp only [List.length_cons, List.length_append]
         omega
       ·have h1 := ih d (prg d t).2
        have h2 := prg_tot d t
        have h3 := leafE_len 0 0 (joinN (trm s :: (prg d t).1)) true
        rw [List.length_append]
        omega
end Go.Proofs.YtbioecifiogffabGreatDoor
namespace Go.Proofs.YtbioecifiogffabGreatDoor
def expand (x : EvL) : List Ev := if x.2 then inlF (x.1.text.length + 1) false x.1.text [] else [x.1]
def evsF (s : List UInt8) : List Ev := (blkF (tot (lns s) + 1) 0 (lns s)).flatMap expand
theorem lnsA_tot (a : Ln) (s : List UInt8) : tot (lnsA a s) ≤ a.length + s.length + 1 := by
 induction s generalizing a with
 | nil => unfold lnsA; split <;> simp [tot]
 | cons c t ih =>
  unfold lnsA
  split
  ·have := ih []
   rw [tot_cons]
   simp at this ⊢
   omega
  ·have := ih (a ++ [c])
   simp at this ⊢
   omega
theorem lns_tot (s : List UInt8) : tot (lns s) ≤ s.length + 1 := by
 have := lnsA_tot [] s
 simpa [lns] using this
def wgt (x : EvL) : Nat := if x.2 then 2 * x.1.text.length else 1
def wgs (l : List EvL) : Nat := (l.map wgt).sum
theorem wgs_nil : wgs [] = 0 := rfl
theorem wgs_cons (x : EvL) (l : List EvL) : wgs (x :: l) = wgt x + wgs l := by simp [wgs]
theorem wgs_append (a b : List EvL) : wgs (a ++ b) = wgs a + wgs b := by simp [wgs]
theorem wgt_bg (k : Int) : wgt (bgE k) = 1 := rfl
theorem wgt_fn (k : Int) : wgt (fnE k) = 1 := rfl
theorem expand_len (x : EvL) : (expand x).length ≤ wgt x := by
 unfold expand wgt
 split
 ·have := inlF_length (x.1.text.length + 1) false x.1.text []
  rw [flushE_nil] at this
  simpa using this
 ·simp
theorem leafE_wgs (k lv : Int) (x : List UInt8) : wgs (leafE k lv x true) ≤ 2 + 2 * x.length := by
 unfold leafE txE
 split <;> simp [wgs, wgt] <;> omega
theorem leafE_wgs0 (k lv : Int) (x : List UInt8) : wgs (leafE k lv x false) ≤ 3 := by
 unfold leafE txE
 split <;> simp [wgs, wgt]
theorem joinN_len (s : Ln) (l : List Ln) : (joinN (s :: l)).length + 1 = tot (s :: l) := by
 induction l generalizing s with
 | nil => simp [joinN, tot]
 | cons x r ih =>
  have := ih x
  rw [tot_cons] at this ⊢
  rw [tot_cons]
  simp only [joinN, List.length_append, List.length_cons, List.length_nil]
  omega
theorem trm_le (s : Ln) : (trm s).length ≤ s.length := by
 unfold trm Lib.trimS Lib.trimLeftS Lib.trimRightS
 refine Nat.le_trans (List.dropWhile_sublist _).length_le ?_
 rw [List.length_reverse]
 exact Nat.le_trans (List.dropWhile_sublist _).length_le (by simp)
theorem flat_wgs {α : Type} (f : α → List EvL) (m : α → Nat) (h : ∀ a, wgs (f a) ≤ m a) (l : List α) : wgs (l.flatMap f) ≤ (l.map m).sum := by
 induction l with
 | nil => simp [wgs]
 | cons a r ih =>
  rw [List.flatMap_cons, wgs_append, List.map_cons, List.sum_cons]
  have := h a
  omega
theorem blkF_wgs (n : Nat) : ∀ (d : Nat) (l : List Ln), wgs (blkF n d l) ≤ 4 * tot l := by
 induction n using Nat.strongRecOn with
 | ind n ih =>
 intro d l
 cases n with
 | zero => simp [blkF, wgs]
 | succ n =>
  cases l with
  | nil => simp [blkF, wgs]
  | cons s t =>
   have ih := ih n (Nat.lt_succ_self n)
   unfold blkF
   rw [tot_cons]
   split
   ·have := ih d t; omega
   ·rename_i hb
    split
    ·have h1 := ih d (fnc t).2
     have h2 := fnc_tot t
     have h3 := leafE_wgs0 5 0 (fnc t).1
     rw [wgs_append]
     omega
    ·split
     ·have h1 := ih d t
      have h3 := leafE_wgs 1 (lvl s) (trm (s.drop (lvl s)))
      have h4 := trm_le (s.drop (lvl s))
      rw [List.length_drop] at h4
      rw [wgs_append]
      omega
     ·split
      ·rename_i h4
       have hq := (sta_four h4).1
       have h1 := ih (d + 1) (qtd (s :: t)).1
       have h2 := ih d (qtd (s :: t)).2
       have h3 := qtd_tot (s :: t)
       have h5 : 1 ≤ (qtd (s :: t)).1.length := by simp [qtd, hq]
       rw [tot_cons] at h3
       simp only [wgs_cons, wgs_append]
       simp only [wgt_bg, wgt_fn]
       omega
      ·split
       ·rename_i h5
        obtain ⟨hi, -⟩ := sta_five h5
        cases n with
        | zero =>
         simp [lst, blkF, wgs, wgt, bgE, fnE]
         omega
        | succ n =>
         have hne := lst_ne (n := n) (t := t) (by simpa using hb) hi
         have h1 := lst_sum (n + 1) (s :: t)
         have h2 := ih d (lst (n + 1) (s :: t)).2
         have h3 := flat_wgs (fun l => bgE 4 :: (blkF (n + 1) (d + 1) l ++ [fnE 4])) (fun x => 4 * tot x + 2) (fun a => by have := ih (d + 1) a; simp only [wgs_cons, wgs_append, wgs_nil]; simp only [wgt_bg, wgt_fn]; omega) (lst (n + 1) (s :: t)).1
         have h4 := sum_less (lst (n + 1) (s :: t)).1 (fun x => 4 * tot x) hne
         rw [tot_cons] at h1
         simp only [wgs_cons, wgs_append]
         simp only [wgt_bg, wgt_fn]
         omega
       ·have h1 := ih d (prg d t).2
        have h2 := prg_tot d t
        have h3 := leafE_wgs 0 0 (joinN (trm s :: (prg d t).1))
        have h4 := joinN_len (trm s) (prg d t).1
        have h5 := trm_le s
        rw [tot_cons] at h4
        rw [wgs_append]
        omega
theorem flatMap_expand_len (l : List EvL) : (l.flatMap expand).length ≤ wgs l := by
 induction l with
 | nil => simp [wgs]
 | cons x r ih =>
  rw [List.flatMap_cons, List.length_append, wgs_cons]
  have := expand_len x
  omega
theorem evsF_len (s : List UInt8) : (evsF s).length ≤ 4 * (s.length + 1) := by
 unfold evsF
 have h1 := flatMap_expand_len (blkF (tot (lns s) + 1) 0 (lns s))
 have h2 := blkF_wgs (tot (lns s) + 1) 0 (lns s)
 have h3 := lns_tot s
 omega
def lfOK : Int → List EvL → Prop
 | _, [] => True
 | p, x :: r => (x.2 = (decide (x.1.kind = 8) && decide (p ≠ 5))) ∧ (x.2 = true → x.1.text ≠ []) ∧ lfOK x.1.kind r
theorem lfOK_append {a b : List EvL} {p : Int} (ha : lfOK p a) (hb : ∀ q, lfOK q b) : lfOK p (a ++ b) := by
 induction a generalizing p with
 | nil => exact hb p
 | cons x r ih => exact ⟨ha.1, ha.2.1, ih ha.2.2⟩
theorem lfOK_leaf (k lv : Int) (x : List UInt8) (hk : k ≠ 8) (p : Int) : lfOK p (leafE k lv x (decide (k ≠ 5))) := by
 unfold leafE txE
 split
 ·simp [lfOK, hk]
 ·rename_i hx
  simp [lfOK, hk, hx]
theorem lfOK_one {k : Int} (hk : k ≠ 8) (p lv : Int) (f : Bool) : lfOK p [((⟨k, f, lv, []⟩, false) : EvL)] := by simp [lfOK, hk]
theorem lfOK_flat {α : Type} {f : α → List EvL} (h : ∀ a q, lfOK q (f a)) (l : List α) (q : Int) : lfOK q (l.flatMap f) := by
 induction l generalizing q with
 | nil => trivial
 | cons a r ih => rw [List.flatMap_cons]; exact lfOK_append (h a q) ih
theorem lfOK_blk (n : Nat) : ∀ (d : Nat) (l : List Ln) (p : Int), lfOK p (blkF n d l) := by
 induction n with
 | zero => intro d l p; simp [blkF, lfOK]
 | succ n ih =>
  intro d l p
  cases l with
  | nil => simp [blkF, lfOK]
  | cons s t =>
   unfold blkF
   split
   ·exact ih _ _ _
   ·split
    ·exact lfOK_append (lfOK_leaf 5 0 _ (by decide) p) (ih _ _)
    ·split
     ·exact lfOK_append (lfOK_leaf 1 _ _ (by decide) p) (ih _ _)
     ·split
      ·exact lfOK_append (a := [bgE 2]) (lfOK_one (by decide) p 0 false) fun q => lfOK_append (ih _ _ q) fun q' => lfOK_append (a := [fnE 2]) (lfOK_one (by decide) q' 0 true) (ih _ _)
      ·split
       ·refine lfOK_append (a := [bgE 3]) (lfOK_one (by decide) p 0 false) fun q => lfOK_append (lfOK_flat (fun a q => ?_) _ q) fun q' => lfOK_append (a := [fnE 3]) (lfOK_one (by decide) q' 0 true) (ih _ _)
        exact lfOK_append (a := [bgE 4]) (lfOK_one (by decide) q 0 false) fun q => lfOK_append (ih _ _ q) fun q' => lfOK_one (by decide) q' 0 true
       ·exact lfOK_append (lfOK_leaf 0 0 _ (by decide) p) (ih _ _)
end Go.Proofs.YtbioecifiogffabGreatDoor
namespace Go.Proofs.YtbioecifiogffabGreatDoor
def wst : List (List UInt8) → List UInt8 → Nat → Option Snk → WEnd × List UInt8 × Nat × Option Snk
 | [], b, n, s => (.fine, b, n, s)
 | t :: r, b, n, s =>
  if (drain 16 (b ++ t).length (b ++ t) n s).1 = .fine then wst r (drain 16 (b ++ t).length (b ++ t) n s).2.1 (drain 16 (b ++ t).length (b ++ t) n s).2.2.1 (drain 16 (b ++ t).length (b ++ t) n s).2.2.2
  else drain 16 (b ++ t).length (b ++ t) n s
theorem wst_snoc (t : List UInt8) : ∀ (l : List (List UInt8)) (b : List UInt8) (n : Nat) (s : Option Snk), (wst l b n s).1 = .fine →
 wst (l ++ [t]) b n s = drain 16 ((wst l b n s).2.1 ++ t).length ((wst l b n s).2.1 ++ t) (wst l b n s).2.2.1 (wst l b n s).2.2.2 := by
 intro l
 induction l with
 | nil =>
  intro b n s _
  simp only [List.nil_append, wst]
  split
  ·rename_i h
   obtain ⟨D, hD⟩ : ∃ D, drain 16 (b ++ t).length (b ++ t) n s = D := ⟨_, rfl⟩
   rw [hD] at h ⊢
   obtain ⟨d1, d2, d3, d4⟩ := D
   simp only at h ⊢
   rw [h]
  ·rfl
 | cons x r ih =>
  intro b n s h
  simp only [List.cons_append, wst] at h ⊢
  split at h
  ·rename_i hf
   rw [if_pos hf, if_pos hf]
   exact ih _ _ _ h
  ·rename_i hf
   exact absurd h hf
theorem puts_wst : ∀ (l r : List (List UInt8)) (b : List UInt8) (n : Nat) (s : Option Snk),
 puts (l ++ r) b n s = if (wst l b n s).1 = .fine then puts r (wst l b n s).2.1 (wst l b n s).2.2.1 (wst l b n s).2.2.2 else ((wst l b n s).1, (wst l b n s).2.2) := by
 intro l
 induction l with
 | nil => intro r b n s; simp [wst]
 | cons x l ih =>
  intro r b n s
  simp only [List.cons_append, puts, wst]
  split
  ·exact ih r _ _ _
  ·rfl
def SnkQ (n : Nat) (s : Option Snk) : Prop := ∀ sk, s = some sk → sk.offers ≤ n ∧ sk.pos ≤ sk.offers ∧ sk.got.length ≤ 16 * sk.offers ∧ sk.most ≤ 16
theorem took_q (sk : Snk) (b : List UInt8) (h2 : sk.pos ≤ sk.offers) (h3 : sk.got.length ≤ 16 * sk.offers) (h4 : sk.most ≤ 16) : (sk.took (b.take 16)).pos ≤ (sk.took (b.take 16)).offers ∧ (sk.took (b.take 16)).got.length ≤ 16 * (sk.took (b.take 16)).offers ∧ (sk.took (b.take 16)).most ≤ 16 := by
 have hc := sk.cnt_le (b.take 16).length
 have hl : (b.take 16).length ≤ 16 := by simp; omega
 refine ⟨?_, ?_, ?_⟩
 ·simp only [Snk.took]; split <;> omega
 ·simp only [Snk.took, List.length_append, List.length_take] at hc ⊢; omega
 ·simp only [Snk.took]; omega
theorem offer_q {b : List UInt8} {n : Nat} {s : Option Snk} (hb : b ≠ []) (h : SnkQ n s) (hf : (offer b n s).1 = .fine) : SnkQ (offer b n s).2.2.1 (offer b n s).2.2.2 := by
 have hl : 0 < b.length := List.length_pos_iff.2 hb
 cases s with
 | none => intro sk hs; simp [offer] at hs
 | some sk0 =>
  obtain ⟨h1, h2, h3, h4⟩ := h sk0 rfl
  have ht := took_q sk0 b h2 h3 h4
  unfold offer at hf ⊢
  simp only at hf ⊢
  split at hf
  ·cases hf
  ·rename_i h5
   rw [if_neg h5]
   split at hf
   ·cases hf
   ·rename_i h6
    rw [if_neg h6]
    intro sk hs
    cases hs
    have ho : (sk0.took (b.take 16)).offers = sk0.offers + 1 := rfl
    exact ⟨by simp only; omega, ht.1, ht.2.1, ht.2.2⟩
theorem drain_q (thr : Nat) (ht : 1 ≤ thr) : ∀ (f : Nat) (b : List UInt8) (n : Nat) (s : Option Snk), SnkQ n s → (drain thr f b n s).1 = .fine →
 SnkQ (drain thr f b n s).2.2.1 (drain thr f b n s).2.2.2 ∧ (drain thr f b n s).2.2.1 + (drain thr f b n s).2.1.length = n + b.length := by
 intro f
 induction f with
 | zero => intro b n s h _; exact ⟨h, rfl⟩
 | succ f ih =>
  intro b n s h hf
  unfold drain at hf ⊢
  split
  ·exact ⟨h, rfl⟩
  ·rename_i hlt
   rw [if_neg hlt] at hf
   have hb : b ≠ [] := by intro e; rw [e] at hlt; simp at hlt; omega
   split
   ·rename_i h1
    rw [if_pos h1] at hf
    have h2 := offer_q hb h h1
    have h3 := (offer_less hb h1).2
    have h4 := ih _ _ _ h2 hf
    exact ⟨h4.1, by rw [h4.2, h3]⟩
   ·rename_i h1
    rw [if_neg h1] at hf
    exact absurd hf h1
theorem wst_q : ∀ (l : List (List UInt8)) (b : List UInt8) (n : Nat) (s : Option Snk), SnkQ n s → (wst l b n s).1 = .fine →
 SnkQ (wst l b n s).2.2.1 (wst l b n s).2.2.2 ∧ (wst l b n s).2.2.1 + (wst l b n s).2.1.length = n + b.length + l.flatten.length := by
 intro l
 induction l with
 | nil => intro b n s h _; exact ⟨h, by simp [wst]⟩
 | cons t r ih =>
  intro b n s h hf
  simp only [wst] at hf ⊢
  split
  ·rename_i h1
   rw [if_pos h1] at hf
   have h2 := drain_q 16 (by omega) _ _ _ _ h h1
   have h3 := ih _ _ _ h2.1 hf
   refine ⟨h3.1, ?_⟩
   rw [h3.2, h2.2]
   simp only [List.length_append, List.flatten_cons]
   omega
  ·rename_i h1
   rw [if_neg h1] at hf
   exact absurd hf h1
end Go.Proofs.YtbioecifiogffabGreatDoor
namespace Go.Proofs.YtbioecifiogffabGreatDoor
def escB (c : UInt8) : List UInt8 := if c = 38 then [38, 97, 109, 112, 59] else if c = 60 then [38, 108, 116, 59] else if c = 62 then [38, 103, 116, 59] else if c = 34 then [38, 113, 117, 111, 116, 59] else [c]
def escT (s : List UInt8) : List UInt8 := s.flatMap escB
def kpL : List UInt8 := [45, 46, 95, 126, 47, 63, 35, 61, 58, 43, 44, 59, 64, 33, 36, 39, 40, 41, 42, 37]
def hexL : List UInt8 := [48, 49, 50, 51, 52, 53, 54, 55, 56, 57, 65, 66, 67, 68, 69, 70]
def hexB (n : Nat) : UInt8 := hexL.getD n 0
def kps (c : UInt8) : Bool := kpL.contains c || (decide (48 ≤ c.toNat) && decide (c.toNat ≤ 57)) || (decide (97 ≤ c.toNat) && decide (c.toNat ≤ 122)) || (decide (65 ≤ c.toNat) && decide (c.toNat ≤ 90))
def whrB (c : UInt8) : List UInt8 := if c = 38 then [38, 97, 109, 112, 59] else if kps c then [c] else [37, hexB (c.toNat / 16), hexB (c.toNat % 16)]
def whrT (s : List UInt8) : List UInt8 := s.flatMap whrB
def tag (sl : Bool) (name : List UInt8) (fd : Bool) : List UInt8 := [60] ++ (if sl then [47] else []) ++ name ++ [62] ++ (if fd then [10] else [])
def htm (e : Ev) : List UInt8 :=
 if e.kind = 0 then tag e.fin [112] e.fin
 else if e.kind = 1 then tag e.fin [104, (48 + e.level).toNat.toUInt8] e.fin
 else if e.kind = 2 then tag e.fin [98, 108, 111, 99, 107, 113, 117, 111, 116, 101] true
 else if e.kind = 3 then tag e.fin [117, 108] true
 else if e.kind = 4 then tag e.fin [108, 105] true
 else if e.kind = 6 then tag e.fin [101, 109] false
 else if e.kind = 5 then (if e.fin then [60, 47, 99, 111, 100, 101, 62, 60, 47, 112, 114, 101, 62, 10] else [60, 112, 114, 101, 62, 60, 99, 111, 100, 101, 62])
 else if e.kind = 7 then (if e.fin then [60, 47, 97, 62] else [60, 97, 32, 104, 114, 101, 102, 61, 34] ++ whrT e.text ++ [34, 62])
 else if e.kind = 9 then [60, 99, 111, 100, 101, 62] ++ escT e.text ++ [60, 47, 99, 111, 100, 101, 62]
 else if e.kind = 10 then [10]
 else if e.kind = 11 then [60, 98, 114, 62, 10]
 else escT e.text
def htms (l : List Ev) : List UInt8 := l.flatMap htm
def pageF (s : List UInt8) : List UInt8 := htms (evsF s)
def EvGood (m : Nat) (e : Ev) : Prop := 0 ≤ e.kind ∧ e.kind ≤ 11 ∧ (e.kind = 1 → 1 ≤ e.level ∧ e.level ≤ 3) ∧ e.text.length ≤ m
theorem EvGood.more {m m' : Nat} {e : Ev} (h : EvGood m e) (hm : m ≤ m') : EvGood m' e := ⟨h.1, h.2.1, h.2.2.1, Nat.le_trans h.2.2.2 hm⟩
theorem escB_len (c : UInt8) : (escB c).length ≤ 6 := by unfold escB; (repeat' split) <;> simp
theorem esc_len (s : List UInt8) : (escT s).length ≤ 6 * s.length := by
 induction s with
 | nil => simp [escT]
 | cons c r ih =>
  have := escB_len c
  unfold escT at ih ⊢
  rw [List.flatMap_cons, List.length_append, List.length_cons]
  omega
theorem whrB_len (c : UInt8) : (whrB c).length ≤ 5 := by unfold whrB; (repeat' split) <;> simp
theorem whr_len (s : List UInt8) : (whrT s).length ≤ 5 * s.length := by
 induction s with
 | nil => simp [whrT]
 | cons c r ih =>
  have := whrB_len c
  unfold whrT at ih ⊢
  rw [List.flatMap_cons, List.length_append, List.length_cons]
  omega
theorem tag_len (sl : Bool) (name : List UInt8) (fd : Bool) : (tag sl name fd).length ≤ name.length + 4 := by
 unfold tag
 cases sl <;> cases fd <;> simp <;> omega
theorem htm_len (e : Ev) : (htm e).length ≤ 6 * e.text.length + 14 := by
 have h1 := esc_len e.text
 have h2 := whr_len e.text
 unfold htm
 by_cases h : e.kind = 0
 ·rw [if_pos h]; exact Nat.le_trans (tag_len _ _ _) (by simp only [List.length_cons, List.length_nil]; omega)
 rw [if_neg h]; clear h
 by_cases h : e.kind = 1
 ·rw [if_pos h]; exact Nat.le_trans (tag_len _ _ _) (by simp only [List.length_cons, List.length_nil]; omega)
 rw [if_neg h]; clear h
 by_cases h : e.kind = 2
 ·rw [if_pos h]; exact Nat.le_trans (tag_len _ _ _) (by simp only [List.length_cons, List.length_nil]; omega)
 rw [if_neg h]; clear h
 by_cases h : e.kind = 3
 ·rw [if_pos h]; exact Nat.le_trans (tag_len _ _ _) (by simp only [List.length_cons, List.length_nil]; omega)
 rw [if_neg h]; clear h
 by_cases h : e.kind = 4
 ·rw [if_pos h]; exact Nat.le_trans (tag_len _ _ _) (by simp only [List.length_cons, List.length_nil]; omega)
 rw [if_neg h]; clear h
 by_cases h : e.kind = 6
 ·rw [if_pos h]; exact Nat.le_trans (tag_len _ _ _) (by simp only [List.length_cons, List.length_nil]; omega)
 rw [if_neg h]; clear h
 by_cases h : e.kind = 5
 ·rw [if_pos h]; cases e.fin <;> simp only [List.length_cons, List.length_nil, if_true, Bool.false_eq_true, if_false] <;> omega
 rw [if_neg h]; clear h
 by_cases h : e.kind = 7
 ·rw [if_pos h]; cases e.fin <;> simp only [List.length_cons, List.length_append, List.length_nil, if_true, Bool.false_eq_true, if_false] <;> omega
 rw [if_neg h]; clear h
 by_cases h : e.kind = 9
 ·rw [if_pos h]; simp only [List.length_cons, List.length_append, List.length_nil]; omega
 rw [if_neg h]; clear h
 by_cases h : e.kind = 10
 ·rw [if_pos h]; simp only [List.length_cons, List.length_nil]; omega
 rw [if_neg h]; clear h
 by_cases h : e.kind = 11
 ·rw [if_pos h]; simp only [List.length_cons, List.length_nil]; omega
 rw [if_neg h]
 omega
theorem tokAt_txt {ins : Bool} {b : UInt8} {t : List UInt8} : (∀ e k, tokAt ins b t = (.one e, k) → EvGood t.length e ∧ 9 ≤ e.kind ∧ e.level = 0 ∧ e.fin = false) ∧ (∀ e s i k, tokAt ins b t = (.sub e s i, k) → EvGood t.length e ∧ (e.kind = 6 ∨ e.kind = 7) ∧ e.level = 0 ∧ e.fin = false ∧ s.length ≤ t.length) := by
 constructor
 ·intro e k h
  unfold tokAt at h
  repeat' split at h
  all_goals (try simp only [Prod.mk.injEq, Tok.one.injEq, reduceCtorEq, false_and] at h)
  ·obtain ⟨rfl, rfl⟩ := h; simp [EvGood]
  ·obtain ⟨rfl, rfl⟩ := h; simp [EvGood]
  ·rename_i k' hk
   obtain ⟨rfl, rfl⟩ := h
   have := fnd_lt hk
   refine ⟨⟨by simp, by simp, by simp, ?_⟩, by simp, rfl, rfl⟩
   simp [spc]
   omega
 ·intro e s i k h
  have h3 := tokAt_sub h
  unfold tokAt at h
  repeat' split at h
  all_goals (try simp only [Prod.mk.injEq, Tok.sub.injEq, reduceCtorEq, false_and] at h)
  ·obtain ⟨⟨rfl, rfl, rfl⟩, rfl⟩ := h
   refine ⟨⟨by simp, by simp, by simp, ?_⟩, .inr rfl, rfl, rfl, by omega⟩
   simp
   omega
  ·obtain ⟨⟨rfl, rfl, rfl⟩, rfl⟩ := h
   exact ⟨⟨by simp, by simp, by simp, by simp⟩, .inl rfl, rfl, rfl, by omega⟩
theorem flushE_good (m : Nat) (p : List UInt8) (h : p.length ≤ m) : ∀ e ∈ flushE p, EvGood m e := by
 intro e he
 unfold flushE at he
 split at he
 ·cases he
 ·obtain rfl := List.mem_singleton.1 he
  exact ⟨by simp, by simp, by simp, h⟩
theorem inlF_good (n : Nat) : ∀ (ins : Bool) (s p : List UInt8) (m : Nat), s.length + p.length ≤ m → ∀ e ∈ inlF n ins s p, EvGood m e := by
 induction n with
 | zero => intro ins s p m h; exact flushE_good m p (by omega)
 | succ n ih =>
  intro ins s p m h
  cases s with
  | nil => exact flushE_good m p (by omega)
  | cons b t =>
   have hf := flushE_good m p (by omega)
   simp only [List.length_cons] at h
   intro e he
   unfold inlF at he
   split at he
   ·rename_i c k hk
    exact ih ins (t.drop k) (p ++ [c]) m (by simp; omega) e he
   ·rename_i x k hk
    have hx := (tokAt_txt.1 x k hk).1
    simp only [List.mem_append, List.mem_cons] at he
    rcases he with he | rfl | he
    ·exact hf e he
    ·exact hx.more (by omega)
    ·exact ih ins (t.drop k) [] m (by simp; omega) e he
   ·rename_i x s i k hk
    obtain ⟨hx, h6, h0, h1, hs⟩ := tokAt_txt.2 x s i k hk
    simp only [List.mem_append, List.mem_cons] at he
    rcases he with he | rfl | he | rfl | he
    ·exact hf e he
    ·exact hx.more (by omega)
    ·exact ih i s [] m (by simp; omega) e he
    ·refine ⟨hx.1, hx.2.1, fun h => ?_, by simp [endE]⟩
     have : x.kind = 1 := h
     omega
    ·exact ih ins (t.drop k) [] m (by simp; omega) e he
theorem leafE_good (k lv : Int) (x : List UInt8) (lf : Bool) (m : Nat) (hk : 0 ≤ k ∧ k ≤ 11) (hl : k = 1 → 1 ≤ lv ∧ lv ≤ 3) (hx : x.length ≤ m) : ∀ e ∈ leafE k lv x lf, EvGood m e.1 := by
 intro e he
 unfold leafE txE at he
 split at he
 ·simp only [List.nil_append, List.mem_cons, List.not_mem_nil, or_false] at he
  rcases he with rfl | rfl <;> exact ⟨hk.1, hk.2, hl, by simp⟩
 ·simp only [List.cons_append, List.nil_append, List.mem_cons, List.not_mem_nil, or_false] at he
  rcases he with rfl | rfl | rfl
  ·exact ⟨hk.1, hk.2, hl, by simp⟩
  ·exact ⟨by simp, by simp, by simp, hx⟩
  ·exact ⟨hk.1, hk.2, hl, by simp⟩
theorem bg_good (m : Nat) (k : Int) (hk : 0 ≤ k ∧ k ≤ 11 ∧ k ≠ 1) : EvGood m (bgE k).1 := ⟨hk.1, hk.2.1, fun h => absurd h hk.2.2, by simp [bgE]⟩
theorem fn_good (m : Nat) (k : Int) (hk : 0 ≤ k ∧ k ≤ 11 ∧ k ≠ 1) : EvGood m (fnE k).1 := ⟨hk.1, hk.2.1, fun h => absurd h hk.2.2, by simp [fnE]⟩
theorem lst_tot (n : Nat) (l : List Ln) : (∀ x ∈ (lst n l).1, tot x ≤ tot l) ∧ tot (lst n l).2 ≤ tot l := by
 have h := lst_sum n l
 refine ⟨fun x hx => ?_, by omega⟩
 have h1 : 4 * tot x + 4 ≤ ((lst n l).1.map (fun x => 4 * tot x + 4)).sum := by
  generalize (lst n l).1 = L at hx
  induction L with
  | nil => cases hx
  | cons a r ih =>
   rw [List.map_cons, List.sum_cons]
   rcases List.mem_cons.1 hx with rfl | hx
   ·omega
   ·have := ih hx; omega
 omega
theorem blkF_good (n : Nat) : ∀ (d : Nat) (l : List Ln) (m : Nat), tot l ≤ m → ∀ e ∈ blkF n d l, EvGood m e.1 := by
 induction n with
 | zero => intro d l m _ e he; simp [blkF] at he
 | succ n ih =>
  intro d l m hm e he
  cases l with
  | nil => simp [blkF] at he
  | cons s t =>
   have hm' := hm
   rw [tot_cons] at hm
   unfold blkF at he
   split at he
   ·exact ih d t m (by omega) e he
   ·split at he
    ·have h2 := fnc_tot t
     rcases List.mem_append.1 he with he | he
     ·exact leafE_good 5 0 _ false m (by decide) (by decide) (by omega) e he
     ·exact ih d _ m (by omega) e he
    ·split at he
     ·rename_i h3
      obtain ⟨h3, h4⟩ := sta_three h3
      have h5 := trm_le (s.drop (lvl s))
      rw [List.length_drop] at h5
      rcases List.mem_append.1 he with he | he
      ·exact leafE_good 1 _ _ true m (by decide) (fun _ => by omega) (by omega) e he
      ·exact ih d _ m (by omega) e he
     ·split at he
      ·have h3 := qtd_tot (s :: t)
       simp only [List.mem_cons, List.mem_append] at he
       rcases he with rfl | he | rfl | he
       ·exact bg_good m 2 (by decide)
       ·exact ih _ _ m (by omega) e he
       ·exact fn_good m 2 (by decide)
       ·exact ih _ _ m (by omega) e he
      ·split at he
       ·obtain ⟨h3, h4⟩ := lst_tot n (s :: t)
        simp only [List.mem_cons, List.mem_append, List.mem_flatMap, List.not_mem_nil, or_false] at he
        rcases he with rfl | ⟨x, hx, he⟩ | rfl | he
        ·exact bg_good m 3 (by decide)
        ·have := h3 x hx
         rcases he with rfl | he | rfl
         ·exact bg_good m 4 (by decide)
         ·exact ih _ _ m (by omega) e he
         ·exact fn_good m 4 (by decide)
        ·exact fn_good m 3 (by decide)
        ·exact ih _ _ m (by omega) e he
       ·have h2 := prg_tot d t
        have h4 := joinN_len (trm s) (prg d t).1
        have h5 := trm_le s
        rw [tot_cons] at h4
        rcases List.mem_append.1 he with he | he
        ·exact leafE_good 0 0 _ true m (by decide) (by decide) (by omega) e he
        ·exact ih d _ m (by omega) e he
theorem evsF_good (s : List UInt8) : ∀ e ∈ evsF s, EvGood (s.length + 1) e := by
 intro e he
 unfold evsF at he
 obtain ⟨x, hx, he⟩ := List.mem_flatMap.1 he
 have hg := blkF_good _ _ _ _ (lns_tot s) x hx
 unfold expand at he
 split at he
 ·exact inlF_good _ _ _ _ _ (by simpa using hg.2.2.2) e he
 ·obtain rfl := List.mem_singleton.1 he
  exact hg
theorem htms_len (m : Nat) (l : List Ev) (h : ∀ e ∈ l, EvGood m e) : (htms l).length ≤ l.length * (6 * m + 14) := by
 induction l with
 | nil => simp [htms]
 | cons e r ih =>
  have h1 := htm_len e
  have h2 := (h e (List.mem_cons_self ..)).2.2.2
  have h3 := ih (fun x hx => h x (List.mem_cons_of_mem _ hx))
  unfold htms at h3 ⊢
  rw [List.flatMap_cons, List.length_append, List.length_cons, Nat.add_mul]
  omega
theorem pageF_len (s : List UInt8) (hs : s.length ≤ 1200) : (pageF s).length ≤ 40000000 := by
 have h1 := htms_len (s.length + 1) (evsF s) (evsF_good s)
 have h2 := evsF_len s
 have h3 : (evsF s).length * (6 * (s.length + 1) + 14) ≤ 4804 * 7220 := Nat.mul_le_mul (by omega) (by omega)
 unfold pageF
 omega
end Go.Proofs.YtbioecifiogffabGreatDoor
namespace Go.Proofs.YtbioecifiogffabGreatDoor
structure WrL where
 err : Nat
 n : Nat
 count : Nat
 got : List UInt8
 offers : Nat
 most : Nat
 none : Bool
 reads : Nat
def wErr : WEnd → Nat
 | .fine => 0
 | .sink => 3
 | .write => 5
def snk0 (ts : List Int) (fa la lie : Int) : Snk := ⟨ts, 0, fa, la, lie, 0, 0, false, []⟩
def pgL (c : ComeL) : List UInt8 := if c.err = 0 then pageF c.text else []
def wrOf (c : ComeL) (sk : Snk) (r : WEnd × Nat × Option Snk) : WrL :=
 if c.err = 0 then ⟨wErr r.1, if r.1 = .fine then 0 else r.2.1, r.2.1, ((r.2.2).getD sk).got, ((r.2.2).getD sk).offers, ((r.2.2).getD sk).most, ((r.2.2).getD sk).none, c.reads⟩
 else ⟨c.err, c.n, 0, sk.got, sk.offers, sk.most, sk.none, c.reads⟩
def htmlL (m : Nat) (c : ComeL) (sk : Snk) : WrL :=
 if m = 1 then wrOf ⟨[], 0, 0, 0⟩ sk (flush (pageF []) 0 (some sk))
 else if m = 2 then wrOf c sk (flush (pageF c.text) 0 none)
 else wrOf c sk (flush (pageF c.text) 0 (some sk))
theorem htmlL_err {c : ComeL} (h : c.err ≠ 0) (ts : List Int) (fa la lie : Int) : htmlL 0 c (snk0 ts fa la lie) = ⟨c.err, c.n, 0, [], 0, 0, false, c.reads⟩ := by
 unfold htmlL wrOf
 rw [if_neg (by decide), if_neg (by decide), if_neg h]
 rfl
theorem htmlL_went {c : ComeL} (h : c.err = 0) (ts : List Int) (fa la lie : Int) : ∃ e n' s', Went (pgL c) 0 (snk0 ts fa la lie) e n' s' ∧ flush (pgL c) 0 (some (snk0 ts fa la lie)) = (e, n', some s') ∧
 htmlL 0 c (snk0 ts fa la lie) = ⟨wErr e, if e = .fine then 0 else n', n', s'.got, s'.offers, s'.most, s'.none, c.reads⟩ := by
 have hp : pgL c = pageF c.text := by unfold pgL; rw [if_pos h]
 obtain ⟨e, n', s', hf, hw⟩ := flush_went _ (pgL c) 0 (snk0 ts fa la lie) (Nat.le_refl _)
 refine ⟨e, n', s', hw, hf, ?_⟩
 unfold htmlL wrOf
 rw [if_neg (by decide), if_neg (by decide), if_pos h, ← hp, hf]
 rfl
structure WritesL (pg : List UInt8) (fa la lie : Int) (r : WrL) : Prop where
 believed : 0 < la ∧ la ≤ (r.offers : Int) → ¬ (lie < 1 ∨ 16 < lie) → r.count ≤ pg.length + 16
 lied : 0 < la ∧ la ≤ (r.offers : Int) → (lie < 1 ∨ 16 < lie) → (r.got.length ≤ pg.length ∧ pg.take r.got.length = r.got) ∧ r.err = 3 ∧ (r.offers : Int) = la ∧ r.count = r.n ∧ r.n ≤ r.got.length
 honest : ¬ (0 < la ∧ la ≤ (r.offers : Int)) → r.got.length ≤ pg.length ∧ pg.take r.got.length = r.got
 failed : ¬ (0 < la ∧ la ≤ (r.offers : Int)) → 0 < fa ∧ fa ≤ (r.offers : Int) → r.err = 5 ∧ (r.offers : Int) = fa ∧ r.count = r.n ∧ r.n ≤ r.got.length
 fine : ¬ (0 < la ∧ la ≤ (r.offers : Int)) → ¬ (0 < fa ∧ fa ≤ (r.offers : Int)) → r.err = 0 ∧ r.n = 0 ∧ r.count = pg.length ∧ r.got = pg ∧ (r.offers = 0 ↔ pg = [])
theorem take_pre {pg g : List UInt8} {m : Nat} (hm : m ≤ pg.length) (h : g = [] ++ pg.take m) : g.length ≤ pg.length ∧ pg.take g.length = g ∧ g.length = m := by
 rw [h, List.nil_append]
 have : (pg.take m).length = m := by simp; omega
 rw [this]
 exact ⟨by omega, rfl, rfl⟩
theorem htmlL_writes {c : ComeL} (h : c.err = 0) (ts : List Int) (fa la lie : Int) : WritesL (pgL c) fa la lie (htmlL 0 c (snk0 ts fa la lie)) ∧ (htmlL 0 c (snk0 ts fa la lie)).reads = c.reads ∧ (htmlL 0 c (snk0 ts fa la lie)).none = false ∧ (htmlL 0 c (snk0 ts fa la lie)).most ≤ 16 := by
 obtain ⟨e, n', s', hw, -, hr⟩ := htmlL_went h ts fa la lie
 rw [hr]
 have ho : (snk0 ts fa la lie).offers = 0 := rfl
 have hl : (snk0 ts fa la lie).lied s' ↔ (0 < la ∧ la ≤ (s'.offers : Int)) := by
  unfold Snk.lied
  rw [ho]
  exact Iff.rfl
 have hg : (snk0 ts fa la lie).got = [] := rfl
 refine ⟨⟨fun _ _ => ?_, fun h1 h2 => ?_, fun h1 => ?_, fun h1 h2 => ?_, fun h1 h2 => ?_⟩, rfl, hw.none, ?_⟩
 ·have := hw.count.2
  simp only; omega
 ·obtain ⟨a1, a2, m, a3, a4, a5⟩ := hw.lies (hl.2 h1) h2
  rw [hg] at a5
  obtain ⟨b1, b2, b3⟩ := take_pre a4 a5
  refine ⟨⟨b1, b2⟩, by rw [a1]; rfl, a2, by rw [a1]; rfl, ?_⟩
  simp only [a1]
  rw [if_neg (by decide)]
  omega
 ·obtain ⟨-, ⟨m, -, a4, a5⟩, -⟩ := hw.true (fun h => h1 (hl.1 h))
  rw [hg] at a5
  obtain ⟨b1, b2, b3⟩ := take_pre a4 a5
  exact ⟨b1, b2⟩
 ·obtain ⟨a1, ⟨m, a3, a4, a5⟩, a6, a7, a8⟩ := hw.true (fun h => h1 (hl.1 h))
  rw [hg] at a5
  obtain ⟨b1, b2, b3⟩ := take_pre a4 a5
  have he : e = .write := a8 (by rw [ho]; exact h2.1) h2.2
  have := a7 he
  have hsf : s'.failAt = fa := hw.same.2.1
  refine ⟨by rw [he]; rfl, by simp only; omega, by rw [he]; rfl, ?_⟩
  simp only [he]
  rw [if_neg (by decide)]
  omega
 ·obtain ⟨a1, -, a6, a7, a8⟩ := hw.true (fun h => h1 (hl.1 h))
  have hsf : s'.failAt = fa := hw.same.2.1
  have hof := hw.offers
  rw [ho] at hof
  have he : e = .fine := by
   cases e with
   | fine => rfl
   | sink => exact absurd rfl a1
   | write =>
    have h3 := a7 rfl
    by_cases hb : pgL c = []
    ·have h4 := hof.2.1 hb
     obtain ⟨e2, n2, s2, hw2, hf2, -⟩ := htmlL_went h ts fa la lie
     rw [hb] at hw
     have := hw.offers.2.1 rfl
     rw [ho] at this
     have h5 : 0 < fa ∨ fa ≤ 0 := by omega
     have h6 : fa = 0 := by omega
     exfalso
     have hfl : flush [] 0 (some (snk0 ts fa la lie)) = (.fine, 0, some (snk0 ts fa la lie)) := rfl
     obtain ⟨e3, n3, s3, hw3, hf3, hr3⟩ := htmlL_went h ts fa la lie
     rw [hb, hfl] at hf3
     cases hf3
     rw [hr] at hr3
     simp [wErr] at hr3
    ·have h4 := hof.2.2 hb
     have h2' : ¬ (0 < fa ∧ fa ≤ (s'.offers : Int)) := h2
     omega
  have hc := hw.fine he
  refine ⟨by rw [he]; rfl, by simp [he], by simp only; omega, by have := a6 he; rw [hg] at this; simpa using this, ?_⟩
  constructor
  ·intro h3
   by_cases hb : pgL c = []
   ·exact hb
   ·have := hof.2.2 hb
    simp only at h3
    omega
  ·exact hof.2.1
 ·have := hw.most
  simp only
  have h0 : (snk0 ts fa la lie).most = 0 := rfl
  omega
theorem htmlL_fine {c : ComeL} (h : c.err = 0) (ts : List Int) (lie : Int) : (htmlL 0 c (snk0 ts 0 0 lie)).err = 0 ∧ (htmlL 0 c (snk0 ts 0 0 lie)).n = 0 ∧ (htmlL 0 c (snk0 ts 0 0 lie)).count = (pgL c).length ∧ (htmlL 0 c (snk0 ts 0 0 lie)).got = pgL c ∧ ((htmlL 0 c (snk0 ts 0 0 lie)).offers = 0 ↔ pgL c = []) :=
 (htmlL_writes h ts 0 0 lie).1.fine (by omega) (by omega)
theorem htmlL_ones {c : ComeL} (h : c.err = 0) (lie : Int) : (htmlL 0 c (snk0 [1] 0 0 lie)).offers = (pgL c).length := by
 obtain ⟨e, n', s', -, hf, hr⟩ := htmlL_went h [1] 0 0 lie
 rw [hr]
 have e0 : (snk0 [1] 0 0 lie).offers = 0 := rfl
 obtain ⟨s1, g1, g2, g3, g4, g5, g6⟩ := flush_ones (pgL c).length (pgL c) 0 (snk0 [1] 0 0 lie) rfl (Nat.le_refl _) (fun i i1 i2 => by
   rw [e0] at i1 i2
   have q1 : (snk0 [1] 0 0 lie).failAt = 0 := rfl
   have q2 : (snk0 [1] 0 0 lie).lieAt = 0 := rfl
   rw [q1, q2]
   omega)
 rw [e0] at g6
 rw [g1, List.drop_length, flush_nil] at hf
 simp only [Prod.mk.injEq, Option.some.injEq] at hf
 obtain ⟨q1, q2, q3⟩ := hf
 subst q1 q2 q3
 simp only
 omega
end Go.Proofs.YtbioecifiogffabGreatDoor
namespace Go.Proofs.YtbioecifiogffabGreatDoor
def rpl (c : UInt8) (r : List UInt8) (l : List UInt8) : List UInt8 := l.flatMap fun b => if b = c then r else [b]
theorem rpl_cons (c : UInt8) (r : List UInt8) (b : UInt8) (l : List UInt8) : rpl c r (b :: l) = (if b = c then r else [b]) ++ rpl c r l := by simp [rpl]
theorem rpl_append (c : UInt8) (r a b : List UInt8) : rpl c r (a ++ b) = rpl c r a ++ rpl c r b := by simp [rpl]
theorem rpl_none {c : UInt8} {r l : List UInt8} (h : ∀ b ∈ l, b ≠ c) : rpl c r l = l := by
 induction l with
 | nil => rfl
 | cons b t ih => rw [rpl_cons, if_neg (h b (List.mem_cons_self ..)), ih (fun x hx => h x (List.mem_cons_of_mem _ hx))]; rfl
theorem indexByte_cases (l : List UInt8) (c : UInt8) : (Lib.indexByte l c = -1 ∧ ∀ b ∈ l, b ≠ c) ∨ ∃ k : Nat, Lib.indexByte l c = k ∧ (∀ b ∈ l.take k, b ≠ c) ∧ l.drop k = c :: l.drop (k + 1) := by
 induction l with
 | nil => exact .inl ⟨rfl, by simp⟩
 | cons b t ih =>
  unfold Lib.indexByte
  by_cases h : b = c
  ·refine .inr ⟨0, by simp [h], by simp, by simp [h]⟩
  ·rw [if_neg (by simpa using h)]
   rcases ih with ⟨h1, h2⟩ | ⟨k, h1, h2, h3⟩
   ·refine .inl ⟨by rw [h1]; rfl, fun x hx => ?_⟩
    rcases List.mem_cons.1 hx with rfl | hx
    ·exact h
    ·exact h2 x hx
   ·refine .inr ⟨k + 1, by rw [h1]; simp, fun x hx => ?_, by simpa using h3⟩
    rw [List.take_succ_cons] at hx
    rcases List.mem_cons.1 hx with rfl | hx
    ·exact h
    ·exact h2 x hx
theorem replaceK_rpl (c : UInt8) (r : List UInt8) (n : Nat) : ∀ l : List UInt8, Lib.count l [c] = n → Lib.replaceK [c] r n l = rpl c r l := by
 induction n with
 | zero =>
  intro l h
  rcases indexByte_cases l c with ⟨h1, h2⟩ | ⟨k, h1, h2, h3⟩
  ·rw [rpl_none h2]; rfl
  ·have := Lib.count_hit (s := l) (sub := [c]) (i := k) (by simp) (by rw [Lib.index_one, h1])
   omega
 | succ n ih =>
  intro l h
  rcases indexByte_cases l c with ⟨h1, h2⟩ | ⟨k, h1, h2, h3⟩
  ·have hi : Lib.index l [c] = -1 := by rw [Lib.index_one, h1]
   have : Lib.count l [c] = 0 := Lib.count_miss hi
   omega
  ·have hi : Lib.index l [c] = (k : Nat) := by rw [Lib.index_one, h1]
   have := Lib.count_hit (s := l) (sub := [c]) (i := k) (by simp) hi
   rw [Lib.replaceK_hit _ _ _ _ _ hi, ih _ (by simp at this ⊢; omega)]
   conv => rhs; rw [← List.take_append_drop k l, h3, rpl_append, rpl_none h2, rpl_cons, if_pos rfl]
   simp
theorem replaceAll_rpl (l : List UInt8) (c : UInt8) (r : List UInt8) (h : ([c] == r) = false) : Lib.replaceAll l [c] r = rpl c r l := by
 unfold Lib.replaceAll Lib.replace
 rw [if_neg (by rw [h]; decide)]
 have e : Lib.replaceNum l [c] (-1) = Lib.count l [c] := by unfold Lib.replaceNum; rw [if_pos (.inl (by decide))]
 rw [e]
 exact replaceK_rpl c r _ l rfl
theorem escB_four (c : UInt8) : rpl 34 [38, 113, 117, 111, 116, 59] (rpl 62 [38, 103, 116, 59] (rpl 60 [38, 108, 116, 59] (rpl 38 [38, 97, 109, 112, 59] [c]))) = escB c := by
 have h : ∀ n : Fin 256, rpl 34 [38, 113, 117, 111, 116, 59] (rpl 62 [38, 103, 116, 59] (rpl 60 [38, 108, 116, 59] (rpl 38 [38, 97, 109, 112, 59] [UInt8.ofNat n.val]))) = escB (UInt8.ofNat n.val) := by decide +kernel
 have := h ⟨c.toNat, c.toNat_lt⟩
 simpa using this
theorem esc_four (s : List UInt8) : rpl 34 [38, 113, 117, 111, 116, 59] (rpl 62 [38, 103, 116, 59] (rpl 60 [38, 108, 116, 59] (rpl 38 [38, 97, 109, 112, 59] s))) = escT s := by
 induction s with
 | nil => rfl
 | cons c t ih =>
  have e : c :: t = [c] ++ t := rfl
  rw [e, rpl_append, rpl_append, rpl_append, rpl_append, escB_four, ih]
  rfl
end Go.Proofs.YtbioecifiogffabGreatDoor
namespace Go.Proofs.YtbioecifiogffabGreatDoor
def ascP (c : UInt8) : Prop := c.toNat < 128 ∧ c ≠ 0 ∧ c ≠ 13
theorem enc_ascii (c : UInt8) (h : c.toNat < 128) : Lib.encodeRune (c.toNat : Int) = [c] := by
 rw [Lib.encodeRune, Lib.encodeRuneZ_one (by omega) (by omega)]
 simp
theorem runes_ascii : ∀ (l : List UInt8) (s : ByteArray) (f pos : Nat), s.data.toList.drop pos = l → (∀ c ∈ l, c.toNat < 128) → l.length ≤ f → runesAt s f pos = l.map UInt8.toNat := by
 intro l
 induction l with
 | nil =>
  intro s f pos hd _ _
  have : ¬ pos < s.size := by
   intro h
   have := congrArg List.length hd
   simp at this
   omega
  rw [runesAt_end s f pos this]
  rfl
 | cons c r ih =>
  intro s f pos hd h hf
  obtain ⟨f, rfl⟩ : ∃ g, f = g + 1 := ⟨f - 1, by simp at hf; omega⟩
  have hlt : pos < s.size := by
   rcases Nat.lt_or_ge pos s.size with h' | h'
   ·exact h'
   ·rw [List.drop_eq_nil_of_le (by simpa using h')] at hd; cases hd
  have hd2 : s.data.toList.drop pos = s[pos]'hlt :: s.data.toList.drop (pos + 1) := List.drop_eq_getElem_cons (by simpa using hlt)
  rw [hd2] at hd
  injection hd with h1 h2
  have hc := h c (List.mem_cons_self ..)
  rw [runesAt_step s f pos hlt, decode_ascii s pos hlt (by rw [h1]; exact hc)]
  simp only [List.map_cons, h1]
  rw [ih s f (pos + 1) h2 (fun x hx => h x (List.mem_cons_of_mem _ hx)) (by simp at hf; omega)]
theorem regR_ascii (l r : List UInt8) (h : ∀ c ∈ l, ascP c) : regR ((l ++ r).map UInt8.toNat) = l ++ regR (r.map UInt8.toNat) := by
 induction l with
 | nil => rfl
 | cons c t ih =>
  obtain ⟨h1, h2, h3⟩ := h c (List.mem_cons_self ..)
  have n0 : c.toNat ≠ 0 := fun e => h2 (UInt8.toNat_inj.1 e)
  have n13 : c.toNat ≠ 13 := fun e => h3 (UInt8.toNat_inj.1 e)
  rw [List.cons_append, List.map_cons]
  conv => lhs; unfold regR
  rw [if_neg (by omega), if_neg (by omega), if_neg (by omega), enc_ascii c h1, ih (fun x hx => h x (List.mem_cons_of_mem _ hx))]
  rfl
theorem regular_runes (l : List UInt8) (h : ∀ c ∈ l, c.toNat < 128) : regular ⟨l.toArray⟩ = regR (l.map UInt8.toNat) := by
 unfold regular
 rw [runes_ascii l ⟨l.toArray⟩ _ 0 (by simp) h (by simp [ByteArray.size])]
theorem regular_ascii (l : List UInt8) (h : ∀ c ∈ l, ascP c) : regular ⟨l.toArray⟩ = l := by
 rw [regular_runes l (fun c hc => (h c hc).1)]
 have := regR_ascii l [] h
 rw [List.append_nil] at this
 rw [this]
 simp [regR]
def word (s : List UInt8) : Prop := s ≠ [] ∧ ∀ c ∈ s, 97 ≤ c.toNat ∧ c.toNat ≤ 122
section
variable {s : List UInt8} (hw : word s)
include hw
theorem word.ne {c b : UInt8} (hc : c ∈ s) (hb : b.toNat < 97) : c ≠ b := by
 have := (hw.2 c hc).1
 rintro rfl
 omega
theorem word.asc : ∀ c ∈ s, ascP c := fun c hc => ⟨by have := hw.2 c hc; omega, hw.ne hc (by decide), hw.ne hc (by decide)⟩
theorem word.escT : escT s = s := by
 have h : ∀ c ∈ s, escB c = [c] := fun c hc => by
  unfold escB
  rw [if_neg (hw.ne hc (by decide)), if_neg (hw.ne hc (by decide)), if_neg (hw.ne hc (by decide)), if_neg (hw.ne hc (by decide))]
 clear hw
 unfold Go.Proofs.YtbioecifiogffabGreatDoor.escT
 induction s with
 | nil => rfl
 | cons c t ih =>
  rw [List.flatMap_cons, h c (List.mem_cons_self ..), ih (fun x hx => h x (List.mem_cons_of_mem _ hx))]
  rfl
theorem word.tok {c : UInt8} (hc : c ∈ s) (ins : Bool) (t : List UInt8) : tokAt ins c t = (.ch c, 0) := by
 unfold tokAt
 have h91 : c ≠ 91 := hw.ne hc (by decide)
 have h92 : c ≠ 92 := hw.ne hc (by decide)
 have h96 : c ≠ 96 := hw.ne hc (by decide)
 rw [if_neg h92, if_neg (hw.ne hc (by decide)), if_neg h96, if_neg h91, if_neg (hw.ne hc (by decide))]
theorem word.inl : ∀ (n : Nat) (ins : Bool) (p : List UInt8), s.length ≤ n → inlF n ins s p = flushE (p ++ s) := by
 have h := @word.tok s hw
 clear hw
 induction s with
 | nil => intro n ins p _; cases n <;> simp [inlF]
 | cons c t ih =>
  intro n ins p hn
  obtain ⟨n, rfl⟩ : ∃ m, n = m + 1 := ⟨n - 1, by simp at hn; omega⟩
  simp only [inlF, h (List.mem_cons_self ..), List.drop_zero]
  rw [ih (fun hc => h (List.mem_cons_of_mem _ hc)) n ins _ (by simp at hn; omega)]
  simp
theorem word.flush : flushE s = [⟨8, false, 0, s⟩] := flushE_some hw.1
theorem word.scn : ∀ (n : Nat) (r : List UInt8), s.length < n → scn n (s ++ 42 :: r) = some s.length := by
 have h : ∀ c ∈ s, c ≠ 42 ∧ ∀ t, skp c t = 0 := fun c hc => by
  have h96 : c ≠ 96 := hw.ne hc (by decide)
  have h92 : c ≠ 92 := hw.ne hc (by decide)
  refine ⟨hw.ne hc (by decide), fun t => ?_⟩
  unfold skp
  rw [if_neg h92, if_neg h96]
 clear hw
 induction s with
 | nil => intro n r hn; obtain ⟨n, rfl⟩ : ∃ m, n = m + 1 := ⟨n - 1, by simp at hn; omega⟩; simp [Go.Proofs.YtbioecifiogffabGreatDoor.scn]
 | cons c t ih =>
  intro n r hn
  obtain ⟨n, rfl⟩ : ∃ m, n = m + 1 := ⟨n - 1, by simp at hn; omega⟩
  obtain ⟨h1, h2⟩ := h c (List.mem_cons_self ..)
  simp only [List.cons_append, Go.Proofs.YtbioecifiogffabGreatDoor.scn]
  rw [if_neg h1, h2, List.drop_zero, ih (fun x hx => h x (List.mem_cons_of_mem _ hx)) n r (by simp at hn; omega)]
  rfl
theorem word.wht {c : UInt8} (hc : c ∈ s) : wht c = false := by
 have h1 := hw.ne hc (b := 32) (by decide)
 have h2 := hw.ne hc (b := 9) (by decide)
 have h3 := hw.ne hc (b := 10) (by decide)
 simp [Go.Proofs.YtbioecifiogffabGreatDoor.wht, h1, h2, h3]
theorem word.str (r : List UInt8) : str (s ++ 42 :: r) = some s.length := by
 unfold Go.Proofs.YtbioecifiogffabGreatDoor.str
 rw [hw.scn _ r (by simp; omega)]
 have hl : 0 < s.length := List.length_pos_iff.2 hw.1
 have h1 : (s ++ 42 :: r).headD 0 ∈ s := by
  have hn := hw.1
  cases s with
  | nil => exact absurd rfl hn
  | cons c t => simp
 have h2 : (s ++ 42 :: r).getD (s.length - 1) 0 ∈ s := by
  rw [List.getD_eq_getElem?_getD, List.getElem?_append_left (by omega), List.getElem?_eq_getElem (by omega)]
  exact List.getElem_mem _
 simp only
 rw [if_neg]
 rw [hw.wht h1, hw.wht h2]
 simp
 exact hw.1
end
theorem sta_zero (c : UInt8) (t : List UInt8) (d : Nat) (h96 : c ≠ 96) (h35 : c ≠ 35) (h62 : c ≠ 62) (h45 : c ≠ 45) : sta (c :: t) d = 0 := by
 have f1 : isFen (c :: t) = false := by
  unfold isFen
  split
  ·rename_i h; injection h with h _; exact absurd h h96
  ·rfl
 have f2 : lvl (c :: t) = 0 := by
  unfold lvl
  have : hsh (c :: t) = 0 := by simp [hsh, h35]
  rw [if_pos (by omega)]
 have f3 : isQuo (c :: t) = false := by
  unfold isQuo
  split
  ·rename_i h; injection h with h _; exact absurd h h62
  ·rfl
 have f4 : isItm (c :: t) = false := by
  unfold isItm
  split
  ·rename_i h; injection h with h _; exact absurd h h45
  ·rename_i h; injection h with h _; exact absurd h h45
  ·rfl
 unfold sta
 rw [f1, f2, f3, f4]
 simp
theorem blkF_one (n d : Nat) (x : Ln) (hb : blank x = false) (hs : sta x d = 0) : blkF (n + 2) d [x] = leafE 0 0 (trm x) true := by
 unfold blkF
 rw [hb, hs]
 simp [prg, joinN, blkF]
theorem htms_append (a b : List Ev) : htms (a ++ b) = htms a ++ htms b := by simp [htms]
theorem htms_cons (e : Ev) (l : List Ev) : htms (e :: l) = htm e ++ htms l := by simp [htms]
theorem htms_nil : htms [] = [] := rfl
theorem leafE_expand (k lv : Int) (x : List UInt8) (hx : x ≠ []) : (leafE k lv x true).flatMap expand = ⟨k, false, lv, []⟩ :: (inlF (x.length + 1) false x [] ++ [⟨k, true, lv, []⟩]) := by
 simp [leafE, txE, hx, expand]
theorem htm_p (b : Bool) : htm ⟨0, b, 0, []⟩ = if b then [60, 47, 112, 62, 10] else [60, 112, 62] := by cases b <;> rfl
theorem htm_t (s : List UInt8) : htm ⟨8, false, 0, s⟩ = escT s := rfl
end Go.Proofs.YtbioecifiogffabGreatDoor
namespace Go.Proofs.YtbioecifiogffabGreatDoor
theorem lns_of_line {l : List UInt8} (h : ∀ c ∈ l, c ≠ 10) (a : Ln) (r : List UInt8) : lnsA a (l ++ r) = lnsA (a ++ l) r := by
 induction l generalizing a with
 | nil => simp
 | cons c t ih =>
  rw [List.cons_append]
  conv => lhs; unfold lnsA
  rw [if_neg (h c (List.mem_cons_self ..)), ih (fun x hx => h x (List.mem_cons_of_mem _ hx))]
  simp
theorem lns_one {l : List UInt8} (h : ∀ c ∈ l, c ≠ 10) (hn : l ≠ []) : lns l = [l] ∧ lns (l ++ [10]) = [l] := by
 constructor
 ·have := lns_of_line h [] []
  rw [List.append_nil, List.nil_append] at this
  unfold lns
  rw [this]
  unfold lnsA
  rw [if_neg hn]
 ·have := lns_of_line h [] [10]
  rw [List.nil_append] at this
  unfold lns
  rw [this]
  unfold lnsA
  rw [if_pos rfl]
  simp [lnsA]
theorem page_lines (s : List UInt8) (L : List Ln) (h : lns s = L) : pageF s = htms ((blkF (tot L + 1) 0 L).flatMap expand) := by subst h; rfl
section
variable {s : List UInt8} (hw : word s)
include hw
theorem word.nofeed : ∀ c ∈ s, c ≠ 10 := fun _ hc => hw.ne hc (by decide)
def emTxt (s : List UInt8) : List UInt8 := [60, 112, 62, 60, 101, 109, 62] ++ s ++ [60, 47, 101, 109, 62, 60, 47, 112, 62, 10]
omit hw in
theorem trm_id (c d : UInt8) (t : List UInt8) (hc : bl c = false) (hd : bl d = false) : trm (c :: (t ++ [d])) = c :: (t ++ [d]) := by
 rw [trm_cons, hc, ← List.cons_append, cutR_snoc, hd]
 rfl
omit hw in
theorem para_one (n d : Nat) (c e : UInt8) (t : List UInt8) (hc : bl c = false) (he : bl e = false) (hs : sta (c :: (t ++ [e])) d = 0) :
 htms ((blkF (n + 2) d [c :: (t ++ [e])]).flatMap expand) = [60, 112, 62] ++ htms (inlF ((c :: (t ++ [e])).length + 1) false (c :: (t ++ [e])) []) ++ [60, 47, 112, 62, 10] := by
 rw [blkF_one n d _ (by simp [Go.Proofs.YtbioecifiogffabGreatDoor.blank, hc]) hs, trm_id c e t hc he, leafE_expand _ _ _ (by simp)]
 simp only [htms_cons, htms_append, htms_nil, htm_p]
 simp
theorem wd_pageC : pageF (42 :: (s ++ [42])) = emTxt s := by
 have hnf : ∀ c ∈ 42 :: (s ++ [42]), c ≠ 10 := by
  intro c hc
  simp only [List.mem_cons, List.mem_append, List.not_mem_nil, or_false] at hc
  rcases hc with rfl | hc | rfl
  ·decide
  ·exact hw.nofeed c hc
  ·decide
 rw [page_lines _ _ (lns_one hnf (by simp)).1]
 obtain ⟨n, hn⟩ : ∃ n, tot [42 :: (s ++ [42])] = n + 1 := ⟨s.length + 2, by simp [tot]⟩
 rw [hn, para_one n 0 42 42 s (by decide) (by decide) (sta_zero 42 _ 0 (by decide) (by decide) (by decide) (by decide))]
 have ht : tokAt false 42 (s ++ [42]) = (.sub ⟨6, false, 0, []⟩ s true, s.length + 1) := by
  unfold tokAt
  rw [if_neg (by decide), if_neg (by decide), if_neg (by decide), if_neg (by decide), if_pos rfl, if_neg (by decide), hw.str []]
  simp
 have e1 : inlF ((42 :: (s ++ [42])).length + 1) false (42 :: (s ++ [42])) [] = [⟨6, false, 0, []⟩, ⟨8, false, 0, s⟩, ⟨6, true, 0, []⟩] := by
  simp only [inlF, ht]
  rw [hw.inl _ _ _ (by simp; omega), List.nil_append, hw.flush, flushE_nil]
  have : (s ++ [42]).drop (s.length + 1) = [] := by simp
  rw [this]
  simp [inlF, flushE_nil, endE]
 rw [e1]
 have h1 : htm ⟨6, false, 0, []⟩ = [60, 101, 109, 62] := by decide
 have h2 : htm ⟨6, true, 0, []⟩ = [60, 47, 101, 109, 62] := by decide
 simp only [htms_cons, htms_nil, h1, h2, htm_t, hw.escT, emTxt]
 simp
end
end Go.Proofs.YtbioecifiogffabGreatDoor
namespace Go.Proofs.YtbioecifiogffabGreatDoor
def cutsF : Nat → List Int → List Int
 | _, [] => []
 | r, c :: cs => if r ≤ 1 then [] else (1 + (if c < 0 then -(c + 1) else c) % ((r : Int) - 1)) :: cutsF (r - (1 + (if c < 0 then -(c + 1) else c) % ((r : Int) - 1)).toNat) cs
theorem cut_bd (r : Nat) (c : Int) (h : ¬ r ≤ 1) : 1 ≤ 1 + (if c < 0 then -(c + 1) else c) % ((r : Int) - 1) ∧ 1 + (if c < 0 then -(c + 1) else c) % ((r : Int) - 1) ≤ (r : Int) - 1 := by
 have h1 := Int.emod_nonneg (if c < 0 then -(c + 1) else c) (show (r : Int) - 1 ≠ 0 by omega)
 have h2 := Int.emod_lt_of_pos (if c < 0 then -(c + 1) else c) (show (0 : Int) < (r : Int) - 1 by omega)
 omega
theorem comeGo_end (wth : Bool) (f k : Nat) (rest all : List UInt8) (hf : fuelFor f rest []) (hr : rest ≠ []) (_ha : all.length ≤ 300) :
 ∃ r, comeGo 0 wth f k rest all 0 [] = ⟨if (all ++ rest).length ≤ 300 then regular ⟨(all ++ rest).toArray⟩ else [], if (all ++ rest).length ≤ 300 then 0 else 1, 0, r⟩ := by
 obtain ⟨f, rfl⟩ : ∃ g, f = g + 1 := ⟨f - 1, by have := hf.1; omega⟩
 have hk : ∀ k : Nat, ¬ ((k : Int) + 1 = 0) := fun k => by omega
 rw [comeGo_succ, if_neg (hk k), show pieceOf rest [] = rest from rfl]
 by_cases h300 : 300 < (all ++ rest).length
 ·rw [if_pos h300, if_neg (by omega), if_neg (by omega)]; exact ⟨_, rfl⟩
 ·have e1 : (if rest ≠ [] ∨ doneOf wth rest [] = true then 0 else 0 + 1) = 0 := if_pos (.inl hr)
  rw [if_neg h300, e1, if_neg (show ¬ 2 < 0 by omega), if_pos (show (all ++ rest).length ≤ 300 by omega), if_pos (show (all ++ rest).length ≤ 300 by omega)]
  cases hw : wth with
  | true => rw [if_pos (by simp [doneOf])]; exact ⟨_, rfl⟩
  | false =>
   have he : rest.isEmpty = false := by simpa using hr
   rw [if_neg (by simp [doneOf, he])]
   have := hf.2 hr
   simp only [List.length_nil] at this
   obtain ⟨f, rfl⟩ : ∃ g, f = g + 1 := ⟨f - 1, by omega⟩
   rw [comeGo_succ, if_neg (hk (k + 1)), List.drop_length, show ([] : List Int).tail = [] from rfl, show pieceOf [] [] = [] from rfl, List.append_nil, if_neg h300, show doneOf false [] [] = true from rfl]
   exact ⟨_, rfl⟩
theorem comeGo_cuts (wth : Bool) (cs : List Int) : ∀ (f k : Nat) (rest all : List UInt8), fuelFor f rest (cutsF rest.length cs) → rest ≠ [] → all.length ≤ 300 →
 ∃ r, comeGo 0 wth f k rest all 0 (cutsF rest.length cs) = ⟨if (all ++ rest).length ≤ 300 then regular ⟨(all ++ rest).toArray⟩ else [], if (all ++ rest).length ≤ 300 then 0 else 1, 0, r⟩ := by
 induction cs with
 | nil => intro f k rest all hf hr ha; exact comeGo_end wth f k rest all hf hr ha
 | cons c cs ih =>
  intro f k rest all hf hr ha
  by_cases h1 : rest.length ≤ 1
  ·have e : cutsF rest.length (c :: cs) = [] := by unfold cutsF; rw [if_pos h1]
   rw [e] at hf ⊢
   exact comeGo_end wth f k rest all hf hr ha
  ·obtain ⟨b1, b2⟩ := cut_bd rest.length c h1
   obtain ⟨n, hn⟩ : ∃ n : Nat, 1 + (if c < 0 then -(c + 1) else c) % ((rest.length : Int) - 1) = (n : Int) := ⟨_, (Int.toNat_of_nonneg (by omega)).symm⟩
   have e : cutsF rest.length (c :: cs) = (n : Int) :: cutsF (rest.length - n) cs := by
    conv => lhs; unfold cutsF
    rw [if_neg h1, hn]
    rfl
   rw [e] at hf ⊢
   rw [hn] at b1 b2
   obtain ⟨f, rfl⟩ : ∃ g, f = g + 1 := ⟨f - 1, by have := hf.1; omega⟩
   have hp : pieceOf rest ((n : Int) :: cutsF (rest.length - n) cs) = rest.take n := by
    simp only [pieceOf]
    rw [if_neg (by omega)]
    rfl
   have hd : doneOf wth rest ((n : Int) :: cutsF (rest.length - n) cs) = false := by
    rw [doneOf_cons, hp]
    have : ((rest.take n).length == rest.length) = false := by rw [beq_eq_false_iff_ne]; simp; omega
    rw [this]
    simp
   have hpl : (rest.take n).length = n := by simp; omega
   have hpn : rest.take n ≠ [] := by intro e; rw [e] at hpl; simp at hpl; omega
   obtain ⟨f', hf', hff⟩ := fuelFor_step hf hd
   have e1 : (if rest.take n ≠ [] ∨ false = true then 0 else 0 + 1) = 0 := if_pos (.inl hpn)
   rw [comeGo_succ, if_neg (by omega), hp, hd, hpl, e1]
   rw [hp, hpl, List.tail_cons] at hff
   obtain rfl : f = f' := by omega
   by_cases h300 : 300 < (all ++ rest.take n).length
   ·rw [if_pos h300]
    have : ¬ (all ++ rest).length ≤ 300 := by simp at h300 ⊢; omega
    rw [if_neg this, if_neg this]
    exact ⟨_, rfl⟩
   ·rw [if_neg h300, if_neg (show ¬ 2 < 0 by omega), if_neg (by decide), List.tail_cons]
    have hl : (rest.drop n).length = rest.length - n := by simp
    rw [← hl] at hff ⊢
    obtain ⟨r, hr'⟩ := ih f (k + 1) (rest.drop n) (all ++ rest.take n) hff (by intro e; rw [e] at hl; simp at hl; omega) (by omega)
    refine ⟨r, ?_⟩
    rw [hr', List.append_assoc, List.take_append_drop]
theorem comeL_cuts (text : List UInt8) (cs : List Int) (wth : Bool) :
 ∃ r, comeL text (cutsF text.length cs) 0 wth = ⟨if text.length ≤ 300 then regular ⟨text.toArray⟩ else [], if text.length ≤ 300 then 0 else 1, 0, r⟩ := by
 by_cases h : text = []
 ·subst h
  have e : cutsF ([] : List UInt8).length cs = [] := by cases cs <;> simp [cutsF]
  rw [e]
  unfold comeL
  rw [List.length_nil, comeGo_succ, if_neg (by decide)]
  simp [pieceOf, doneOf]
 ·obtain ⟨r, hr⟩ := comeGo_cuts wth cs ((cutsF text.length cs).length + 2) 0 text [] (fuelFor_start _ _) h (by simp)
  exact ⟨r, by unfold comeL; rw [hr, List.nil_append]⟩
theorem comeL_whole (text : List UInt8) : ∃ r, comeL text [] 0 false = ⟨if text.length ≤ 300 then regular ⟨text.toArray⟩ else [], if text.length ≤ 300 then 0 else 1, 0, r⟩ := comeL_cuts text [] false
end Go.Proofs.YtbioecifiogffabGreatDoor
namespace Go.Proofs.YtbioecifiogffabGreatDoor
theorem whole_pg {t u : List UInt8} (ht : t.length ≤ 300) (hr : regular ⟨t.toArray⟩ = u) : (comeL t [] 0 false).err = 0 ∧ pgL (comeL t [] 0 false) = pageF u := by
 obtain ⟨r, h⟩ := comeL_whole t
 rw [h, if_pos ht, if_pos ht, hr]
 refine ⟨rfl, ?_⟩
 unfold pgL
 rw [if_pos rfl]
section
variable {s : List UInt8} (hw : word s) (hs : s.length ≤ 60)
include hw hs
theorem wd_cC : (comeL ([42] ++ s ++ [42]) [] 0 false).err = 0 ∧ pgL (comeL ([42] ++ s ++ [42]) [] 0 false) = emTxt s := by
 rw [← wd_pageC hw]
 refine whole_pg (by simp; omega) ?_
 refine regular_ascii _ fun c hc => ?_
 simp only [List.cons_append, List.nil_append, List.mem_cons, List.mem_append, List.not_mem_nil, or_false] at hc
 rcases hc with rfl | hc | rfl
 ·exact ⟨by decide, by decide, by decide⟩
 ·exact hw.asc c hc
 ·exact ⟨by decide, by decide, by decide⟩
end
def aliveTxt : List UInt8 := [60, 112, 62, 60, 101, 109, 62, 97, 60, 47, 101, 109, 62, 60, 47, 112, 62, 10]
theorem alive_c : (comeL [42, 97, 42] [] 0 false).err = 0 ∧ pgL (comeL [42, 97, 42] [] 0 false) = aliveTxt :=
 wd_cC (s := [97]) ⟨by simp, by decide⟩ (by simp)
end Go.Proofs.YtbioecifiogffabGreatDoor
namespace Go.Proofs.YtbioecifiogffabGreatDoor
def topK (st : List Ev) : Int := match st.getLast? with | none => -1 | some e => e.kind
theorem topK_snoc (st : List Ev) (e : Ev) : topK (st ++ [e]) = e.kind := by simp [topK]
def deepC (st : List Ev) : Nat := (st.filter fun e => decide (e.kind = 2) || decide (e.kind = 4)).length
theorem deepC_snoc (st : List Ev) (e : Ev) : deepC (st ++ [e]) = deepC st + if e.kind = 2 ∨ e.kind = 4 then 1 else 0 := by
 unfold deepC
 rw [List.filter_append, List.length_append]
 congr 1
 by_cases h2 : e.kind = 2
 ·simp [h2]
 ·by_cases h4 : e.kind = 4
  ·simp [h4]
  ·simp [h2, h4]
def hasK (st : List Ev) (k : Int) : Bool := st.any fun e => decide (e.kind = k)
theorem hasK_snoc (st : List Ev) (e : Ev) (k : Int) : hasK (st ++ [e]) k = (hasK st k || decide (e.kind = k)) := by simp [hasK]
def insideP (st : List Ev) (k : Int) : Bool :=
 if (k = 6 ∨ k = 7) ∧ hasK st k = true then false
 else if k = 4 then decide (topK st = 3) && decide (deepC st < 3)
 else if k = 6 ∨ k = 7 then decide (topK st = 0 ∨ topK st = 1 ∨ topK st = 6 ∨ topK st = 7)
 else if k = 2 ∨ k = 3 then decide (topK st = -1 ∨ topK st = 2 ∨ topK st = 4) && decide (deepC st < 3)
 else decide (topK st = -1 ∨ topK st = 2 ∨ topK st = 4)
def nestP : Int → List Ev → List Ev → Bool
 | _, st, [] => decide (st.length = 0)
 | q, st, e :: r =>
  if 8 ≤ e.kind then
   if st.length = 0 ∨ e.fin = true ∨ e.level ≠ 0 ∨ (e.kind = 8 ∧ (e.text = [] ∨ q = 8)) then false
   else if 2 ≤ topK st ∧ topK st ≤ 4 then false
   else nestP e.kind st r
  else if e.fin = true then
   match st.getLast? with
   | none => false
   | some x => if x.kind ≠ e.kind ∨ x.level ≠ e.level then false else nestP e.kind st.dropLast r
  else if (decide (e.kind = 1) ≠ decide (0 < e.level)) ∨ 3 < e.level ∨ e.level < 0 then false
  else if insideP st e.kind = true then nestP e.kind (st ++ [e]) r
  else false
theorem nestP_end {q : Int} {st r : List Ev} {e : Ev} {x : Ev} (hx : x.kind = e.kind ∧ x.level = e.level) (hf : e.fin = true) (hk : e.kind < 8) (h : nestP e.kind st r = true) : nestP q (st ++ [x]) (e :: r) = true := by
 unfold nestP
 rw [if_neg (by omega), if_pos hf]
 simp [hx.1, hx.2, h]
theorem nestP_begin {q : Int} {st r : List Ev} {e : Ev} (hf : e.fin = false) (hk : e.kind < 8) (hl : (e.kind = 1 ∧ 1 ≤ e.level ∧ e.level ≤ 3) ∨ (e.kind ≠ 1 ∧ e.level = 0)) (hi : insideP st e.kind = true) (h : nestP e.kind (st ++ [e]) r = true) : nestP q st (e :: r) = true := by
 unfold nestP
 rw [if_neg (by omega), if_neg (by rw [hf]; decide), if_neg, if_pos hi]
 ·exact h
 ·rcases hl with ⟨h1, h2, h3⟩ | ⟨h1, h2⟩
  ·have e1 : decide (e.kind = 1) = true := by simpa using h1
   have e2 : decide (0 < e.level) = true := by simp; omega
   rw [e1, e2]
   simp
   omega
  ·have e1 : decide (e.kind = 1) = false := by simpa using h1
   have e2 : decide (0 < e.level) = false := by simp; omega
   rw [e1, e2, h2]
   simp
theorem nestP_text {q : Int} {st r : List Ev} {e : Ev} (hk : 8 ≤ e.kind) (hf : e.fin = false) (hl : e.level = 0) (h8 : e.kind = 8 → e.text ≠ [] ∧ q ≠ 8) (ht : topK st ≠ -1) (ht2 : topK st < 2 ∨ 4 < topK st) (h : nestP e.kind st r = true) : nestP q st (e :: r) = true := by
 unfold nestP
 rw [if_pos hk, if_neg, if_neg (by omega)]
 ·exact h
 ·rintro (h1 | h1 | h1 | ⟨h1, h2⟩)
  ·have := List.eq_nil_of_length_eq_zero h1
   subst this
   exact ht rfl
  ·rw [hf] at h1; cases h1
  ·exact h1 hl
  ·rcases h2 with h2 | h2
   ·exact (h8 h1).1 h2
   ·exact (h8 h1).2 h2
theorem nestP_inv {q : Int} {st r : List Ev} {e : Ev} (h : nestP q st (e :: r) = true) :
 (8 ≤ e.kind ∧ st.length ≠ 0 ∧ e.fin = false ∧ e.level = 0 ∧ (e.kind = 8 → e.text ≠ [] ∧ q ≠ 8) ∧ ¬ (2 ≤ topK st ∧ topK st ≤ 4) ∧ nestP e.kind st r = true) ∨
 (¬ 8 ≤ e.kind ∧ e.fin = true ∧ ∃ x st', st = st' ++ [x] ∧ x.kind = e.kind ∧ x.level = e.level ∧ nestP e.kind st' r = true) ∨
 (¬ 8 ≤ e.kind ∧ e.fin = false ∧ ((e.kind = 1 ∧ 0 < e.level) ∨ (e.kind ≠ 1 ∧ ¬ 0 < e.level)) ∧ ¬ 3 < e.level ∧ ¬ e.level < 0 ∧ insideP st e.kind = true ∧ nestP e.kind (st ++ [e]) r = true) := by
 unfold nestP at h
 by_cases h8 : 8 ≤ e.kind
 ·rw [if_pos h8] at h
  split at h
  ·cases h
  ·rename_i h1
   simp only [not_or] at h1
   split at h
   ·cases h
   ·rename_i h2
    refine .inl ⟨h8, h1.1, by simpa using h1.2.1, by simpa using h1.2.2.1, fun h => ?_, h2, by assumption⟩
    have := h1.2.2.2
    simp only [not_and, not_or] at this
    exact this h
 ·rw [if_neg h8] at h
  by_cases hf : e.fin = true
  ·rw [if_pos hf] at h
   split at h
   ·cases h
   ·rename_i x hx
    split at h
    ·cases h
    ·rename_i h1
     simp only [not_or, Decidable.not_not] at h1
     have hne : st ≠ [] := by rintro rfl; simp at hx
     refine .inr (.inl ⟨h8, hf, x, st.dropLast, ?_, h1.1, h1.2, h⟩)
     rw [List.getLast?_eq_some_getLast hne] at hx
     cases hx
     exact (List.dropLast_concat_getLast hne).symm
  ·rw [if_neg hf] at h
   split at h
   ·cases h
   ·rename_i h1
    simp only [not_or] at h1
    split at h
    ·rename_i h2
     refine .inr (.inr ⟨h8, by simpa using hf, ?_, h1.2.1, h1.2.2, h2, h⟩)
     have h3 := h1.1
     by_cases k1 : e.kind = 1
     ·have e1 : decide (e.kind = 1) = true := by simpa using k1
      rw [e1] at h3
      exact .inl ⟨k1, by simpa using h3⟩
     ·have e1 : decide (e.kind = 1) = false := by simpa using k1
      rw [e1] at h3
      exact .inr ⟨k1, by simpa using h3⟩
    ·cases h
theorem fnd_none {c : UInt8} {l : List UInt8} (h : fnd c l = none) : ¬ c ∈ l := by
 induction l with
 | nil => simp
 | cons b t ih =>
  simp only [fnd] at h
  split at h
  ·cases h
  ·rename_i hb
   have := ih (by simpa using h)
   simp only [List.mem_cons, not_or]
   exact ⟨fun e => hb e.symm, this⟩
theorem lnk_clear {t : List UInt8} {k m : Nat} (h : lnk t = some (k, m)) : ¬ (91 : UInt8) ∈ t.take k := by
 unfold lnk at h
 split at h
 ·simp at h
 ·rename_i k' hk
  split at h
  ·simp at h
  ·rename_i hn
   split at h
   ·simp at h
   ·split at h
    ·simp only [Option.map_eq_some_iff, Prod.mk.injEq] at h
     obtain ⟨m', hm, rfl, rfl⟩ := h
     exact fnd_none (by simpa using hn)
    ·simp at h
theorem tokAt_nest {ins : Bool} {b : UInt8} {t : List UInt8} {e : Ev} {s : List UInt8} {i : Bool} {k : Nat} (h : tokAt ins b t = (.sub e s i, k)) :
 (e.kind = 6 ∧ ins = false ∧ i = true ∧ ∃ n, s = t.take n) ∨ (e.kind = 7 ∧ b = 91 ∧ i = ins ∧ ¬ (91 : UInt8) ∈ s ∧ ∃ n, s = t.take n) := by
 unfold tokAt at h
 repeat' split at h
 all_goals (try simp only [Prod.mk.injEq, Tok.sub.injEq, reduceCtorEq, false_and] at h)
 ·rename_i hb _ _ _ hk
  obtain ⟨⟨rfl, rfl, rfl⟩, rfl⟩ := h
  exact .inr ⟨rfl, hb, rfl, lnk_clear hk, _, rfl⟩
 ·rename_i hi _ _ _
  obtain ⟨⟨rfl, rfl, rfl⟩, rfl⟩ := h
  exact .inl ⟨rfl, by simpa using hi, rfl, _, rfl⟩
theorem nestP_flush {q : Int} {st r : List Ev} (p : List UInt8) (hq : q ≠ 8) (ht : topK st = 0 ∨ topK st = 1 ∨ topK st = 6 ∨ topK st = 7) (h : ∀ q', nestP q' st r = true) : nestP q st (flushE p ++ r) = true := by
 unfold flushE
 split
 ·exact h q
 ·rename_i hp
  exact nestP_text (by simp) rfl rfl (fun _ => ⟨hp, hq⟩) (by omega) (by omega) (h _)
theorem inl_nest (n : Nat) : ∀ (ins : Bool) (s p : List UInt8) (st rest : List Ev) (q : Int), (topK st = 0 ∨ topK st = 1 ∨ topK st = 6 ∨ topK st = 7) → (hasK st 6 = true → ins = true) → (hasK st 7 = true → ¬ (91 : UInt8) ∈ s) → q ≠ 8 →
 (∀ q', nestP q' st rest = true) → nestP q st (inlF n ins s p ++ rest) = true := by
 induction n with
 | zero => intro ins s p st rest q ht _ _ hq h; exact nestP_flush p hq ht h
 | succ n ih =>
  intro ins s p st rest q ht h6 h7 hq h
  cases s with
  | nil => exact nestP_flush p hq ht h
  | cons b t =>
   have h7t : ∀ k, hasK st 7 = true → ¬ (91 : UInt8) ∈ t.drop k := fun k hk hm => h7 hk (List.mem_cons_of_mem _ (List.mem_of_mem_drop hm))
   unfold inlF
   split
   ·exact ih _ _ _ _ _ _ ht h6 (h7t _) hq h
   ·rename_i e k hk
    obtain ⟨_, h9, hl, hf⟩ := tokAt_txt.1 e k hk
    rw [List.append_assoc]
    refine nestP_flush p hq ht fun q' => ?_
    exact nestP_text (by omega) hf hl (fun h => by omega) (by omega) (by omega) (ih _ _ _ _ _ _ ht h6 (h7t _) (by omega) h)
   ·rename_i e s i k hk
    obtain ⟨_, _, hl, hf, _⟩ := tokAt_txt.2 e s i k hk
    have hn := tokAt_nest hk
    have hk67 : e.kind = 6 ∨ e.kind = 7 := by rcases hn with hn | hn <;> omega
    have hnot : hasK st e.kind = false := by
     cases hh : hasK st e.kind with
     | false => rfl
     | true =>
      rcases hn with ⟨h1, h2, _⟩ | ⟨h1, h2, _⟩
      ·rw [h1] at hh; rw [h6 hh] at h2; cases h2
      ·rw [h1] at hh; exact absurd (by rw [h2]; exact List.mem_cons_self ..) (h7 hh)
    rw [List.append_assoc]
    refine nestP_flush p hq ht fun q' => ?_
    rw [List.cons_append, List.append_assoc, List.cons_append]
    refine nestP_begin hf (by omega) (.inr ⟨by omega, hl⟩) ?_ ?_
    ·unfold insideP
     rw [if_neg (by rw [hnot]; simp), if_neg (by omega), if_pos hk67]
     simpa using ht
    ·refine ih i s [] (st ++ [e]) _ e.kind (by rw [topK_snoc]; omega) (fun h => ?_) (fun h => ?_) (by omega) fun q'' => ?_
     ·rw [hasK_snoc] at h
      rcases hn with ⟨h1, h2, h3, _⟩ | ⟨h1, h2, h3, _⟩
      ·exact h3
      ·rw [h3]
       refine h6 ?_
       have : decide (e.kind = 6) = false := by simp; omega
       rwa [this, Bool.or_false] at h
     ·rw [hasK_snoc] at h
      rcases hn with ⟨h1, h2, h3, m, h4⟩ | ⟨h1, h2, h3, h4, _⟩
      ·have : decide (e.kind = 7) = false := by simp; omega
       rw [this, Bool.or_false] at h
       rw [h4]
       exact fun hm => h7 h (List.mem_cons_of_mem _ (List.mem_of_mem_take hm))
      ·exact h4
     ·exact nestP_end (e := endE e) (x := e) ⟨rfl, hl⟩ rfl (by simp [endE]; omega) (ih _ _ _ _ _ _ ht h6 (h7t _) (by simp [endE]; omega) h)
def blkSt (st : List Ev) : Prop := hasK st 6 = false ∧ hasK st 7 = false
theorem blkSt_snoc {st : List Ev} {e : Ev} (h : blkSt st) (h6 : e.kind ≠ 6) (h7 : e.kind ≠ 7) : blkSt (st ++ [e]) := by
 unfold blkSt at h ⊢
 rw [hasK_snoc, hasK_snoc, h.1, h.2]
 simp [h6, h7]
theorem leaf_nest (k lv : Int) (x : List UInt8) (lf : Bool) (st rest : List Ev) (q : Int) (hk : (k = 0 ∧ lv = 0 ∧ lf = true) ∨ (k = 1 ∧ 1 ≤ lv ∧ lv ≤ 3 ∧ lf = true) ∨ (k = 5 ∧ lv = 0 ∧ lf = false)) (ht : topK st = -1 ∨ topK st = 2 ∨ topK st = 4) (hb : blkSt st)
 (h : ∀ q', nestP q' st rest = true) : nestP q st ((leafE k lv x lf).flatMap expand ++ rest) = true := by
 have e0 : (leafE k lv x lf).flatMap expand = ⟨k, false, lv, []⟩ :: ((txE x lf).flatMap expand ++ [⟨k, true, lv, []⟩]) := by
  simp [leafE, expand]
 rw [e0, List.cons_append, List.append_assoc]
 refine nestP_begin rfl (by simp; omega) (by simp; omega) ?_ ?_
 ·unfold insideP
  simp only
  rw [if_neg (by omega), if_neg (by omega), if_neg (by omega), if_neg (by omega)]
  simpa using ht
 ·have hend : ∀ q', nestP q' (st ++ [⟨k, false, lv, []⟩]) ([⟨k, true, lv, []⟩] ++ rest) = true := fun q' => nestP_end (x := ⟨k, false, lv, []⟩) (e := ⟨k, true, lv, []⟩) ⟨rfl, rfl⟩ rfl (by simp; omega) (h _)
  have hb2 : blkSt (st ++ [⟨k, false, lv, []⟩]) := blkSt_snoc hb (by simp; omega) (by simp; omega)
  unfold txE
  split
  ·exact hend _
  ·rename_i hx
   rw [List.flatMap_cons, List.flatMap_nil, List.append_nil]
   cases hlf : lf with
   | true =>
    have e1 : expand ((⟨8, false, 0, x⟩, true) : EvL) = inlF (x.length + 1) false x [] := rfl
    rw [e1]
    have hk01 : k = 0 ∨ k = 1 := by
     rcases hk with ⟨h1, _⟩ | ⟨h1, _⟩ | ⟨_, _, h1⟩
     ·exact .inl h1
     ·exact .inr h1
     ·rw [hlf] at h1; cases h1
    refine inl_nest _ _ _ _ _ _ _ (by rw [topK_snoc]; rcases hk01 with h | h <;> simp [h]) (fun h => by rw [hb2.1] at h; cases h) (fun h => by rw [hb2.2] at h; cases h) (by simp; omega) hend
   | false =>
    have e1 : expand ((⟨8, false, 0, x⟩, false) : EvL) = [⟨8, false, 0, x⟩] := rfl
    rw [e1, List.cons_append, List.nil_append]
    have hk5 : k = 5 := by
     rcases hk with ⟨_, _, h1⟩ | ⟨_, _, _, h1⟩ | ⟨h1, _⟩
     ·rw [hlf] at h1; cases h1
     ·rw [hlf] at h1; cases h1
     ·exact h1
    refine nestP_text (by simp) rfl rfl (fun _ => ⟨hx, by simp; omega⟩) (by rw [topK_snoc]; simp; omega) (by rw [topK_snoc]; simp; omega) (hend _)
theorem blk_nest (n : Nat) : ∀ (d : Nat) (l : List Ln) (st rest : List Ev) (q : Int), deepC st = d → d ≤ 3 → (topK st = -1 ∨ topK st = 2 ∨ topK st = 4) → blkSt st →
 (∀ q', nestP q' st rest = true) → nestP q st ((blkF n d l).flatMap expand ++ rest) = true := by
 induction n with
 | zero => intro d l st rest q _ _ _ _ h; simp [blkF]; exact h q
 | succ n ih =>
  intro d l st rest q hd h3 ht hb h
  cases l with
  | nil => simp [blkF]; exact h q
  | cons s t =>
   unfold blkF
   split
   ·exact ih d t st rest q hd h3 ht hb h
   ·split
    ·rw [List.flatMap_append, List.append_assoc]
     exact leaf_nest 5 0 _ false st _ q (.inr (.inr ⟨rfl, rfl, rfl⟩)) ht hb fun q' => ih d _ st rest q' hd h3 ht hb h
    ·split
     ·rename_i h3'
      have := sta_three h3'
      rw [List.flatMap_append, List.append_assoc]
      exact leaf_nest 1 _ _ true st _ q (.inr (.inl ⟨rfl, by omega, by omega, rfl⟩)) ht hb fun q' => ih d _ st rest q' hd h3 ht hb h
     ·split
      ·rename_i h4
       have hd3 := (sta_four h4).2
       rw [List.flatMap_cons, List.flatMap_append, List.flatMap_cons, List.append_assoc, List.append_assoc, List.append_assoc]
       have e1 : expand (bgE 2) = [⟨2, false, 0, []⟩] := rfl
       have e2 : expand (fnE 2) = [⟨2, true, 0, []⟩] := rfl
       rw [e1, e2, List.cons_append, List.nil_append]
       refine nestP_begin rfl (by simp) (.inr ⟨by simp, rfl⟩) ?_ ?_
       ·unfold insideP
        rw [if_neg (by simp), if_neg (by simp), if_neg (by simp), if_pos (by simp), hd]
        simp [hd3]
        omega
       ·refine ih (d + 1) _ (st ++ [⟨2, false, 0, []⟩]) _ _ (by rw [deepC_snoc, hd]; simp) (by omega) (by rw [topK_snoc]; simp) (blkSt_snoc hb (by simp) (by simp)) fun q' => ?_
        exact nestP_end (x := ⟨2, false, 0, []⟩) (e := ⟨2, true, 0, []⟩) ⟨rfl, rfl⟩ rfl (by simp) (ih d _ st rest _ hd h3 ht hb h)
      ·split
       ·rename_i h5
        have hd3 := (sta_five h5).2
        rw [List.flatMap_cons, List.flatMap_append, List.flatMap_cons, List.append_assoc, List.append_assoc, List.append_assoc]
        have e1 : expand (bgE 3) = [⟨3, false, 0, []⟩] := rfl
        have e2 : expand (fnE 3) = [⟨3, true, 0, []⟩] := rfl
        rw [e1, e2, List.cons_append, List.nil_append]
        refine nestP_begin rfl (by simp) (.inr ⟨by simp, rfl⟩) ?_ ?_
        ·unfold insideP
         rw [if_neg (by simp), if_neg (by simp), if_neg (by simp), if_pos (by simp), hd]
         simp [hd3]
         omega
        ·have hend : ∀ q', nestP q' (st ++ [⟨3, false, 0, []⟩]) (([⟨3, true, 0, []⟩] : List Ev) ++ ((blkF n d (lst n (s :: t)).2).flatMap expand ++ rest)) = true := fun q' =>
          nestP_end (x := ⟨3, false, 0, []⟩) (e := ⟨3, true, 0, []⟩) ⟨rfl, rfl⟩ rfl (by simp) (ih d _ st rest _ hd h3 ht hb h)
         have hit : ∀ (items : List (List Ln)) (q' : Int), nestP q' (st ++ [⟨3, false, 0, []⟩]) ((items.flatMap (fun l => bgE 4 :: (blkF n (d + 1) l ++ [fnE 4]))).flatMap expand ++ ([⟨3, true, 0, []⟩] ++ ((blkF n d (lst n (s :: t)).2).flatMap expand ++ rest))) = true := by
          intro items
          induction items with
          | nil => exact hend
          | cons x r ihr =>
           intro q'
           have e3 : expand (bgE 4) = [⟨4, false, 0, []⟩] := rfl
           have e4 : expand (fnE 4) = [⟨4, true, 0, []⟩] := rfl
           rw [List.flatMap_cons, List.flatMap_append, List.flatMap_cons, List.flatMap_append, List.flatMap_cons, List.flatMap_nil, List.append_nil, e3, e4, List.append_assoc, List.append_assoc, List.append_assoc, List.cons_append, List.nil_append]
           refine nestP_begin rfl (by simp) (.inr ⟨by simp, rfl⟩) ?_ ?_
           ·unfold insideP
            rw [if_neg (by simp), if_pos rfl, topK_snoc, deepC_snoc, hd]
            simp [hd3]
           ·refine ih (d + 1) _ (st ++ [⟨3, false, 0, []⟩] ++ [⟨4, false, 0, []⟩]) _ _ (by rw [deepC_snoc, deepC_snoc, hd]; simp) (by omega) (by rw [topK_snoc]; simp) (blkSt_snoc (blkSt_snoc hb (by simp) (by simp)) (by simp) (by simp)) fun q' => ?_
            exact nestP_end (x := ⟨4, false, 0, []⟩) (e := ⟨4, true, 0, []⟩) ⟨rfl, rfl⟩ rfl (by simp) (ihr _)
         exact hit _ _
       ·rw [List.flatMap_append, List.append_assoc]
        exact leaf_nest 0 0 _ true st _ q (.inl ⟨rfl, rfl, rfl⟩) ht hb fun q' => ih d _ st rest q' hd h3 ht hb h
theorem evsF_nest (s : List UInt8) : nestP 0 [] (evsF s) = true := by
 have := blk_nest (tot (lns s) + 1) 0 (lns s) [] [] 0 rfl (by omega) (.inl rfl) ⟨rfl, rfl⟩ (fun _ => rfl)
 rw [List.append_nil] at this
 exact this
end Go.Proofs.YtbioecifiogffabGreatDoor
