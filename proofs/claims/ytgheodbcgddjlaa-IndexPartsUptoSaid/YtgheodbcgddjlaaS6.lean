/- What a reader reads: parts. -/
import Derived.Test.YtgheodbcgddjlaaW14
set_option linter.unusedVariables false
set_option linter.unusedSimpArgs false
namespace Go.Ix
open Go.Hl
def partR (k : Bool) (s : Rs) : Pt × Rs := if k then (pv (valR s).1, (valR s).2) else (pn (numR s).1, (numR s).2)
def partsR : List Bool → Rs → List Pt × Rs
  | [], s => ([], s)
  | k :: ks, s => if (partR k s).2.2 = true then ([], (partR k s).2) else ((partR k s).1 :: (partsR ks (partR k s).2).1, (partsR ks (partR k s).2).2)
theorem partR_length (k : Bool) (s : Rs) : (partR k s).2.1.length ≤ s.1.length := by
  unfold partR
  cases k
  · exact takeR_le s 8
  · exact (val0_length s).2
/-- The kinds, as cells. -/
def bb (l : List Bool) : List Value := l.map .bool
theorem bb_get {l : List Bool} {i : Nat} {b : Bool} (h : l[i]? = some b) : (bb l)[i]? = some (.bool b) := by simp [bb, h]
/-- What the iterator over parts has caught. -/
def Kp (kv : Value) (ks : List Bool) (rb b2 b3 : Nat) (h : Hp) : Prop := h b2 = some (.cells #[kv] 94 (0, 0)) ∧ h b3 = some (.cells #[.pointer (some ⟨rb, 0, none⟩)] 108 (0, 0)) ∧ Rd h kv ks.length (bb ks)
instance {kv : Value} {ks : List Bool} {rb b2 b3 : Nat} : Mono (fun h => Kp kv ks rb b2 b3 h) := inferInstanceAs (Mono (fun h => h b2 = some (.cells #[kv] 94 (0, 0)) ∧ h b3 = some (.cells #[.pointer (some ⟨rb, 0, none⟩)] 108 (0, 0)) ∧ Rd h kv ks.length (bb ks)))
instance {kv : Value} {ks : List Bool} {rb b2 b3 : Nat} : Mono (Kp kv ks rb b2 b3) := inferInstanceAs (Mono (fun h => Kp kv ks rb b2 b3 h))
theorem cons_mid {α : Type} {a b c : List α} {x : α} (h : a = b ++ x :: c) : a = b ++ [x] ++ c := by rw [h]; simp
end Go.Ix
