/- What adding datoms does to an index's trees: plain functions. -/
import Derived.Test.YtgheodbcgddjlaaW18
set_option linter.unusedVariables false
set_option linter.unusedSimpArgs false
namespace Go.Ix
open Go.Hl
/-- May a datom be added? -/
def okAdd (d : D) : Bool := mayD d && [1, 2, 3, 4].all fun o => !keyOk o d || decide ((keyD o d).length ≤ 4096)
/-- The trees with one datom more, in the orders ahead of n. -/
def putN (n : Nat) (ss : Nat → S) (d : D) : Nat → S := fun o => if (1 ≤ o ∧ o < n) ∧ keyOk o d = true then putS (keyD o d) (ss o) else ss o
def putD (ss : Nat → S) (d : D) : Nat → S := putN 5 ss d
def addL (ss : Nat → S) (l : List D) : Nat → S := l.foldl putD ss
theorem putN_wf {n : Nat} {ss : Nat → S} {d : D} {o : Nat} (h : (ss o).Wf) : (putN n ss d o).Wf ∧ (putN n ss d o).cnt ≤ (ss o).cnt + 1 := by
  unfold putN
  split
  · exact putS_wf _ h
  · exact ⟨h, Nat.le_succ _⟩
theorem addL_wf : ∀ (l : List D) {ss : Nat → S} {o : Nat}, (ss o).Wf → (addL ss l o).Wf ∧ (addL ss l o).cnt ≤ (ss o).cnt + l.length
  | [], _, _, h => ⟨h, Nat.le_refl _⟩
  | d :: l, ss, o, h => by
    have h1 := putN_wf (n := 5) (d := d) h
    have h2 := addL_wf l (ss := putD ss d) (o := o) h1.1
    refine ⟨h2.1, Nat.le_trans h2.2 ?_⟩
    have : (putD ss d o).cnt ≤ (ss o).cnt + 1 := h1.2
    simp only [List.length_cons]; omega
theorem addL_snoc (ss : Nat → S) (l : List D) (d : D) : addL ss (l ++ [d]) = putD (addL ss l) d := by simp [addL]
theorem putN_one (ss : Nat → S) (d : D) : putN 1 ss d = ss := by
  funext o
  unfold putN
  rw [if_neg]
  rintro ⟨⟨h1, h2⟩, _⟩
  omega
theorem putN_succ_no {n : Nat} {ss : Nat → S} {d : D} (h : keyOk n d = false) : putN (n + 1) ss d = putN n ss d := by
  funext o
  unfold putN
  by_cases ho : o = n
  · subst ho
    rw [if_neg (by rw [h]; simp), if_neg (by rw [h]; simp)]
  · have : ((1 ≤ o ∧ o < n + 1) ∧ keyOk o d = true) ↔ ((1 ≤ o ∧ o < n) ∧ keyOk o d = true) := by
      constructor
      · rintro ⟨⟨h1, h2⟩, h3⟩; exact ⟨⟨h1, by omega⟩, h3⟩
      · rintro ⟨⟨h1, h2⟩, h3⟩; exact ⟨⟨h1, by omega⟩, h3⟩
    by_cases hc : (1 ≤ o ∧ o < n) ∧ keyOk o d = true
    · rw [if_pos hc, if_pos (this.2 hc)]
    · rw [if_neg hc, if_neg (fun h => hc (this.1 h))]
theorem putN_succ_yes {n : Nat} {ss : Nat → S} {d : D} (hn : 1 ≤ n) (h : keyOk n d = true) (o : Nat) : putN (n + 1) ss d o = if o = n then putS (keyD n d) (putN n ss d n) else putN n ss d o := by
  unfold putN
  by_cases ho : o = n
  · subst ho
    rw [if_pos ⟨⟨hn, Nat.lt_succ_self _⟩, h⟩, if_pos rfl, if_neg]
    rintro ⟨⟨_, h2⟩, _⟩; omega
  · rw [if_neg ho]
    by_cases hc : (1 ≤ o ∧ o < n) ∧ keyOk o d = true
    · rw [if_pos hc, if_pos ⟨⟨hc.1.1, by omega⟩, hc.2⟩]
    · rw [if_neg hc, if_neg]
      rintro ⟨⟨h1, h2⟩, h3⟩
      exact hc ⟨⟨h1, by omega⟩, h3⟩
theorem keyD_length (o : Int) (d : D) : (keyD o d).length ≤ 14063 := by
  unfold keyD
  split
  · rename_i h
    have h1 : mayD d = true := by simp [keyOk] at h; exact h.1.2
    have h2 := keyL_length (l := partsL o d) (fun p hp => List.all_eq_true.1 (okP_parts o h1) p hp)
    rw [partsL_length] at h2; omega
  · exact Nat.zero_le _
theorem keyE_zero {o : Int} {d : D} : keyE o d = 0 ↔ keyOk o d = true := by
  unfold keyE keyOk
  cases h1 : isO o <;> cases h2 : mayD d <;> cases h3 : hasO o d <;> simp
theorem Rt.one {h : Hp} {v : Value} {t : T} (H : Rt h v t) : v.oneCell' = true ∧ v.cells = #[v] := by
  rcases H with ⟨rfl, _⟩ | ⟨a, rfl, _⟩ <;> exact ⟨rfl, rfl⟩
theorem Ixc.one {h : Hp} {vs : List Value} {ts : Nat → T} (H : Ixc h vs ts) : vs.all (·.oneCell') = true := by
  rw [List.all_eq_true]
  intro v hv
  obtain ⟨i, hi, rfl⟩ := List.mem_iff_getElem.1 hv
  have := (H.2 i (by rw [← H.1]; exact hi)).one
  rw [List.getD_eq_getElem?_getD, List.getElem?_eq_getElem hi] at this
  exact this.1
theorem Ixc.set {h : Hp} {vs : List Value} {ts : Nat → T} (H : Ixc h vs ts) {i : Nat} (hi : i < 5) {w : Value} {t : T} (hw : Rt h w t) : Ixc h (vs.set i w) (fun o => if o = i then t else ts o) := by
  refine ⟨by simpa using H.1, fun j hj => ?_⟩
  by_cases e : j = i
  · subst e
    have h1 : j < vs.length := by rw [H.1]; exact hj
    simp [List.getD_eq_getElem?_getD, h1]; exact hw
  · have := H.2 j hj
    rw [List.getD_eq_getElem?_getD] at this ⊢
    rw [List.getElem?_set_ne (Ne.symm e)]
    simp only [e, if_false]; exact this
end Go.Ix
