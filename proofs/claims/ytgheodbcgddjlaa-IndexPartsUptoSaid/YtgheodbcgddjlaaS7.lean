/- What a key reads as: a datom, or none. -/
import Derived.Test.YtgheodbcgddjlaaW16
set_option linter.unusedVariables false
set_option linter.unusedSimpArgs false
namespace Go.Ix
open Go.Hl
theorem partsR_full : ∀ (ks : List Bool) (s : Rs), (partsR ks s).2.2 = false → (partsR ks s).1.length = ks.length
  | [], _, _ => rfl
  | k :: ks, s, h => by
    simp only [partsR] at h ⊢
    split at h
    · rename_i h1; rw [h1] at h; cases h
    · rename_i h1
      rw [if_neg h1]
      simpa using partsR_full ks (partR k s).2 h
theorem readP_length {ks : List Bool} {l : List UInt8} {ps : List Pt} (h : readP ks l = some ps) : ps.length = ks.length := by
  unfold readP at h
  split at h
  · cases h
  · rename_i h1
    simp only [Option.some.injEq] at h
    subst h
    exact partsR_full ks _ (by simp only [not_or] at h1; simpa using h1.1)
def kindsO (o : Int) : List Bool := (partsL o D0).map (·.b)
theorem kindsO_length (o : Int) : (kindsO o).length = 7 := by simp [kindsO, partsL_length]
def gN (ps : List Pt) (i : Nat) : Int := (ps.getD i (pn 0)).n
def gV (ps : List Pt) (i : Nat) : V := (ps.getD i (pn 0)).v
def mkD (o : Int) (ps : List Pt) : D :=
  let f (e a : Int) (v : V) : D := ⟨e, a, v, gN ps 3, decide (gN ps 4 = 0), gN ps 5, gN ps 6⟩
  if o = 1 then f (gN ps 0) (gN ps 1) (gV ps 2) else if o = 2 then f (gN ps 1) (gN ps 0) (gV ps 2) else if o = 3 then f (gN ps 2) (gN ps 0) (gV ps 1) else f (gN ps 2) (gN ps 1) (gV ps 0)
def okD (o : Int) (ps : List Pt) : Bool := mayD (mkD o ps) && hasO o (mkD o ps) && decide (gN ps 4 = addN (mkD o ps))
/-- Errno, datom. -/
def readD (o : Int) (l : List UInt8) : Int × D := if isO o then (match readP (kindsO o) l with
  | none => (40, D0)
  | some ps => if okD o ps then (0, mkD o ps) else (40, D0)) else (2, D0)
end Go.Ix
