/- Plain: what comes of a source, by the document. No program in sight, no condition. -/
import Derived.Test.YtbioecifiogffaaDoorText
namespace Go.Proofs.YtbioecifiogffaaDoor
open Go.RowKit

structure ComeL where
  text : List UInt8
  err : Nat
  n : Nat
  reads : Nat

def pieceOf (rest : List UInt8) : List Int → List UInt8
  | [] => rest
  | c :: _ => if c < 0 ∨ (rest.length : Int) < c then [] else rest.take c.toNat
def doneOf (wth : Bool) (rest : List UInt8) : List Int → Bool
  | [] => wth || rest.isEmpty
  | c :: cs => wth && (pieceOf rest (c :: cs)).length == rest.length && cs.isEmpty

/-- k rounds are over; rest is still to come, all has come, idle pieces were empty. -/
def comeGo (failAt : Int) (wth : Bool) : Nat → Nat → List UInt8 → List UInt8 → Nat → List Int → ComeL
  | 0, k, _, _, _, _ => ⟨[], 0, 0, k⟩
  | f + 1, k, rest, all, idle, cuts =>
    if (k : Int) + 1 = failAt then ⟨[], 4, all.length, k + 1⟩
    else
      let p := pieceOf rest cuts
      let d := doneOf wth rest cuts
      let idle' := if p ≠ [] ∨ d = true then 0 else idle + 1
      if 300 < (all ++ p).length then ⟨[], 1, 0, k + 1⟩
      else if 2 < idle' then ⟨[], 2, 0, k + 1⟩
      else if d = true then ⟨regular ⟨(all ++ p).toArray⟩, 0, 0, k + 1⟩
      else comeGo failAt wth f (k + 1) (rest.drop p.length) (all ++ p) idle' cuts.tail

def comeL (text : List UInt8) (cuts : List Int) (failAt : Int) (wth : Bool) : ComeL := comeGo failAt wth (cuts.length + 2) 0 text [] 0 cuts

/-- There is fuel for what can still come. -/
def fuelFor (f : Nat) (rest : List UInt8) (cuts : List Int) : Prop := cuts.length + 1 ≤ f ∧ (rest ≠ [] → cuts.length + 2 ≤ f)

theorem doneOf_cons (wth : Bool) (rest : List UInt8) (c : Int) (cs : List Int) : doneOf wth rest (c :: cs) = (wth && (pieceOf rest (c :: cs)).length == rest.length && cs.isEmpty) := rfl

theorem comeGo_succ (failAt : Int) (wth : Bool) (f k : Nat) (rest all : List UInt8) (idle : Nat) (cuts : List Int) :
    comeGo failAt wth (f + 1) k rest all idle cuts =
    if (k : Int) + 1 = failAt then ⟨[], 4, all.length, k + 1⟩
    else if 300 < (all ++ pieceOf rest cuts).length then ⟨[], 1, 0, k + 1⟩
      else if 2 < (if pieceOf rest cuts ≠ [] ∨ doneOf wth rest cuts = true then 0 else idle + 1) then ⟨[], 2, 0, k + 1⟩
      else if doneOf wth rest cuts = true then ⟨regular ⟨(all ++ pieceOf rest cuts).toArray⟩, 0, 0, k + 1⟩
      else comeGo failAt wth f (k + 1) (rest.drop (pieceOf rest cuts).length) (all ++ pieceOf rest cuts) (if pieceOf rest cuts ≠ [] ∨ doneOf wth rest cuts = true then 0 else idle + 1) cuts.tail := rfl

theorem fuelFor_start (text : List UInt8) (cuts : List Int) : fuelFor (cuts.length + 2) text cuts := ⟨by omega, fun _ => by omega⟩

theorem pieceOf_le (rest : List UInt8) (cuts : List Int) : (pieceOf rest cuts).length ≤ rest.length := by
  cases cuts with
  | nil => simp [pieceOf]
  | cons c cs =>
    simp only [pieceOf]
    split
    · simp
    · simp; omega

theorem fuelFor_step {f : Nat} {rest : List UInt8} {cuts : List Int} {wth : Bool} (h : fuelFor f rest cuts) (hd : doneOf wth rest cuts = false) :
    ∃ f', f = f' + 1 ∧ fuelFor f' (rest.drop (pieceOf rest cuts).length) cuts.tail := by
  obtain ⟨h1, h2⟩ := h
  refine ⟨f - 1, by omega, ?_⟩
  cases cuts with
  | nil =>
    simp only [doneOf, Bool.or_eq_false_iff] at hd
    have hne : rest ≠ [] := by intro e; rw [e] at hd; simp at hd
    have := h2 hne
    constructor
    · simp at this ⊢; omega
    · intro hh
      simp [pieceOf] at hh
  | cons c cs =>
    simp only [List.length_cons, List.tail_cons] at *
    refine ⟨by omega, fun hh => ?_⟩
    have : rest ≠ [] := by intro e; rw [e] at hh; simp at hh
    have := h2 this
    omega
end Go.Proofs.YtbioecifiogffaaDoor
