/- What a reader of bytes reads: plain functions. -/
import Derived.Test.YtgheodbcgddjlaaW10
import Derived.Scope
set_option linter.unusedVariables false
set_option linter.unusedSimpArgs false
namespace Go.Ix
open Go.Hl
/-- A reader: what is left, and whether it says nothing. -/
abbrev Rs := List UInt8 × Bool
def takeR (s : Rs) (n : Nat) : List UInt8 × Rs := if s.2 = true ∨ s.1.length < n then (List.replicate n 0, (s.1, true)) else (s.1.take n, (s.1.drop n, false))
theorem takeR_length (s : Rs) (n : Nat) : (takeR s n).1.length = n := by
  unfold takeR
  split
  · simp
  · rename_i h; simp at h ⊢; omega
theorem takeR_le (s : Rs) (n : Nat) : (takeR s n).2.1.length ≤ s.1.length := by
  unfold takeR
  split
  · exact Nat.le_refl _
  · simp
theorem Bs.of {h : Hp} {b off cap : Nat} {l : List UInt8} (hr : RdC h b off (cb l)) (hc : l.length ≤ cap) : Bs h (.slice (some ⟨b, off, none⟩) l.length cap) l := .inr ⟨b, off, cap, rfl, hc, hr⟩
def accN (v : Int) (c : UInt8) : Int := bits .or .u64 (IntKind.u64.wrap (v * 2 ^ (8 : Int).toNat)) (IntKind.u64.wrap c.toNat)
def decN (l : List UInt8) : Int := IntKind.i64.wrap (bits .xor .u64 (l.foldl accN 0) 9223372036854775808)
def numR (s : Rs) : Int × Rs := (decN (takeR s 8).1, (takeR s 8).2)
theorem takeR_one (s : Rs) : ∃ c, (takeR s 1).1 = [c] := List.length_eq_one_iff.1 (takeR_length s 1)
/-- A text: its bytes till the end mark. -/
def txtR : Nat → List UInt8 → Rs → List UInt8 × Rs
  | 0, out, s => (out, s)
  | n + 1, out, s => if s.2 = true then (out, s) else
    let c := (takeR s 1).1.headD 0
    if c ≠ 0 then txtR n (out ++ [c]) (takeR s 1).2 else
    let d := (takeR (takeR s 1).2 1).1.headD 0
    let s2 := (takeR (takeR s 1).2 1).2
    if d = 1 then (out, s2) else if d = 255 then txtR n (out ++ [0]) s2 else txtR n out (s2.1, true)
def mR (s : Rs) : Nat := if s.2 = true then 0 else s.1.length + 1
theorem takeR_m (s : Rs) (h : s.2 = false) : mR (takeR s 1).2 + 1 ≤ mR s := by
  unfold takeR mR
  by_cases h1 : s.1.length < 1
  · simp [h, h1]
  · simp [h, h1]; omega
theorem takeR_m' (s : Rs) : mR (takeR s 1).2 ≤ mR s := by
  by_cases h : s.2 = false
  · have := takeR_m s h; omega
  · have h' : s.2 = true := by simpa using h
    unfold takeR mR
    simp [h']
theorem takeR_len' (s : Rs) (c : UInt8) (hc : (takeR s 1).1 = [c]) (h0 : c ≠ 0) : (takeR s 1).2.1.length + 1 ≤ s.1.length := by
  unfold takeR at hc ⊢
  by_cases h1 : s.2 = true ∨ s.1.length < 1
  · rw [if_pos h1] at hc; simp at hc; exact absurd hc.symm h0
  · rw [if_neg h1]
    have h2 : ¬ s.1.length < 1 := fun h => h1 (.inr h)
    show (s.1.drop 1).length + 1 ≤ s.1.length
    rw [List.length_drop]; omega
theorem takeR_len (s : Rs) (_h : s.2 = false) (c : UInt8) (hc : (takeR s 1).1 = [c]) (h0 : c ≠ 0) : (takeR s 1).2.1.length + 1 ≤ s.1.length := takeR_len' s c hc h0
theorem txtR_bad (n : Nat) (out : List UInt8) (s : Rs) (h : s.2 = true) : txtR n out s = (out, s) := by
  cases n <;> simp [txtR, h]
def txt (s : Rs) : List UInt8 × Rs := txtR (s.1.length + 1) [] s
end Go.Ix
namespace Go.Hl
open Go.RowKit Go.Grow Go.Ix
def scopeJ (Φ : Outs) : Outs
  | .goto _, _ => False
  | e, S => Φ e S
theorem J_scope {P : Program} {C : Ctx} {Φ : Outs} {S : St} {c : Code} (h : J Fence.wide P C S c (scopeJ Φ)) : J Fence.wide P C S (.scope c) Φ := fun hp a w H => by
  refine wpIn_wide.2 (wp_scope_straight (wpIn_wide.1 (wpIn_mono (h hp a w H) ?_)))
  rintro e a' w' ⟨S', h', hΦ, H'⟩
  cases e <;> first | exact ⟨S', h', hΦ, H'⟩ | exact hΦ
end Go.Hl
