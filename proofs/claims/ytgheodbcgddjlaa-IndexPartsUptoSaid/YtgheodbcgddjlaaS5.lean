/- What a reader reads: values, parts, a datom. -/
import Derived.Test.YtgheodbcgddjlaaW13
set_option linter.unusedVariables false
set_option linter.unusedSimpArgs false
namespace Go.Ix
open Go.Hl
theorem txtR_length : ∀ (n : Nat) (out : List UInt8) (s : Rs), (txtR n out s).1.length + (txtR n out s).2.1.length ≤ out.length + s.1.length
  | 0, out, s => Nat.le_refl _
  | n + 1, out, s => by
    have h1 := takeR_le s 1
    have h2 := takeR_le (takeR s 1).2 1
    obtain ⟨c, hc⟩ := takeR_one s
    obtain ⟨d, hd⟩ := takeR_one (takeR s 1).2
    simp only [txtR, hc, hd, List.headD_cons]
    split
    · exact Nat.le_refl _
    · split
      · rename_i _ h0
        have h3 := takeR_len' s c hc h0
        have := txtR_length n (out ++ [c]) (takeR s 1).2
        simp only [List.length_append, List.length_cons, List.length_nil] at this
        omega
      · split
        · show out.length + (takeR (takeR s 1).2 1).2.1.length ≤ _; omega
        · split
          · rename_i _ _ _ h0
            have h3 := takeR_len' (takeR s 1).2 d hd (by rw [h0]; decide)
            have := txtR_length n (out ++ [0]) (takeR (takeR s 1).2 1).2
            simp only [List.length_append, List.length_cons, List.length_nil] at this
            omega
          · have := txtR_length n out ((takeR (takeR s 1).2 1).2.1, true)
            simp only at this
            omega
theorem txt_length (s : Rs) : (txt s).1.length + (txt s).2.1.length ≤ s.1.length := by
  have := txtR_length (s.1.length + 1) [] s
  simpa [txt] using this
/-- A value, ahead of the look whether it may be. -/
def val0 (s : Rs) : V × Rs :=
  let k : Int := ((takeR s 1).1.headD 0).toNat
  let s1 := (takeR s 1).2
  if k = 2 then (⟨k, ((takeR s1 1).1.headD 0).toNat, []⟩, (takeR s1 1).2)
  else if k = 3 ∨ k = 4 ∨ k = 7 then (⟨k, 0, (txt s1).1⟩, (txt s1).2)
  else (⟨k, (numR s1).1, []⟩, (numR s1).2)
def valR (s : Rs) : V × Rs := ((val0 s).1, ((val0 s).2.1, (val0 s).2.2 || !mayV (val0 s).1))
theorem val0_length (s : Rs) : (val0 s).1.s.length ≤ s.1.length ∧ (val0 s).2.1.length ≤ s.1.length := by
  have h1 := takeR_le s 1
  have h2 := takeR_le (takeR s 1).2 1
  have h3 := takeR_le (takeR s 1).2 8
  have h4 := txt_length (takeR s 1).2
  unfold val0
  simp only
  split
  · exact ⟨Nat.zero_le _, by show (takeR (takeR s 1).2 1).2.1.length ≤ _; omega⟩
  · split
    · exact ⟨by show (txt (takeR s 1).2).1.length ≤ _; omega, by show (txt (takeR s 1).2).2.1.length ≤ _; omega⟩
    · exact ⟨Nat.zero_le _, by show (takeR (takeR s 1).2 8).2.1.length ≤ _; omega⟩
end Go.Ix
