/- An index: five trees; what it tells. -/
import Derived.Test.YtgheodbcgddjlaaW17
set_option linter.unusedVariables false
set_option linter.unusedSimpArgs false
namespace Go.Ix
open Go.Hl
/-- The cells of an index are pointers to these trees. -/
def Ixc (h : Hp) (vs : List Value) (ts : Nat → T) : Prop := vs.length = 5 ∧ ∀ i, i < 5 → Rt h (vs.getD i undef) (ts i)
instance {vs : List Value} {ts : Nat → T} : Mono (fun h => Ixc h vs ts) := ⟨fun k x => ⟨x.1, fun i hi => Mono.le (F := fun h => Rt h (vs.getD i undef) (ts i)) k (x.2 i hi)⟩⟩
/-- v is an index with these trees. -/
def Ixp (h : Hp) (v : Value) (ts : Nat → T) : Prop := (v = .pointer none ∧ ∀ i, ts i = .nil) ∨ ∃ a vs, v = .pointer (some ⟨a, 0, none⟩) ∧ h a = some (.cells vs.toArray 47 (0, 0)) ∧ Ixc h vs ts
instance {v : Value} {ts : Nat → T} : Mono (fun h => Ixp h v ts) := ⟨fun k x => x.imp id fun ⟨a, vs, h1, h2, h3⟩ => ⟨a, vs, h1, k _ _ h2, Mono.le (F := fun h => Ixc h vs ts) k h3⟩⟩
theorem Ixp.one {h : Hp} {v : Value} {ts : Nat → T} (H : Ixp h v ts) : clist v = [v] ∧ v.cells = #[v] ∧ v.oneCell' = true := by
  rcases H with ⟨rfl, _⟩ | ⟨a, vs, rfl, _⟩ <;> exact ⟨rfl, rfl, rfl⟩
def endP (l : List UInt8) : List UInt8 := if nB l l.length = 0 then [] else endL l
/-- The datoms of keys, as far as they are such. -/
def readAll (o : Int) : List (List UInt8) → List D
  | [] => []
  | k :: ks => if (readD o k).1 = 0 then (readD o k).2 :: readAll o ks else []
def beginL (o : Int) (pre : List UInt8) (t : T) : List D := readAll o ((rangeT pre (endP pre) t).map T.key)
theorem beginL_nil (o : Int) (pre : List UInt8) : beginL o pre .nil = [] := rfl
theorem pairC_length (v : Value) : (pairC v).length = 2 := rfl
/-- The datoms as a slice's cells. -/
def RdD (h : Hp) (v : Value) (l : List D) : Prop := Rd h v l.length (l.flatMap D.cells)
instance {v : Value} {l : List D} : Mono (fun h => RdD h v l) := inferInstanceAs (Mono (fun h => Rd h v l.length (l.flatMap D.cells)))
theorem rangeT_length (lo to : List UInt8) (t : T) : (rangeT lo to t).length ≤ t.sh.cnt :=
  Nat.le_trans (List.IsPrefix.length_le (List.takeWhile_prefix _)) (fromT_length lo t)
theorem readAll_length (o : Int) : ∀ ks : List (List UInt8), (readAll o ks).length ≤ ks.length
  | [] => Nat.le_refl _
  | k :: ks => by
    simp only [readAll]
    split
    · have := readAll_length o ks; simpa using this
    · exact Nat.zero_le _
theorem beginL_length (o : Int) (pre : List UInt8) (t : T) : (beginL o pre t).length ≤ t.sh.cnt := by
  refine Nat.le_trans (readAll_length _ _) ?_
  rw [List.length_map]; exact rangeT_length _ _ _
/-- What the iterator over an index has caught. -/
def Kx (xv pv : Value) (o : Int) (ts : Nat → T) (pre : List UInt8) (c1 c2 c3 : Nat) (h : Hp) : Prop :=
  (h c1 = some (.cells #[xv] 25 (0, 0)) ∧ h c2 = some (.cells #[pv] 49 (0, 0)) ∧ h c3 = some (.cells #[.int .i64 o] 3 (0, 0))) ∧ Ixp h xv ts ∧ Bs h pv pre
instance {xv pv : Value} {o : Int} {ts : Nat → T} {pre : List UInt8} {c1 c2 c3 : Nat} : Mono (fun h => Kx xv pv o ts pre c1 c2 c3 h) := inferInstanceAs (Mono (fun h => (h c1 = some (.cells #[xv] 25 (0, 0)) ∧ h c2 = some (.cells #[pv] 49 (0, 0)) ∧ h c3 = some (.cells #[.int .i64 o] 3 (0, 0))) ∧ Ixp h xv ts ∧ Bs h pv pre))
instance {xv pv : Value} {o : Int} {ts : Nat → T} {pre : List UInt8} {c1 c2 c3 : Nat} : Mono (Kx xv pv o ts pre c1 c2 c3) := inferInstanceAs (Mono (fun h => Kx xv pv o ts pre c1 c2 c3 h))
end Go.Ix
namespace Go.Hl
open Go.RowKit Go.Grow Go.Ix
section
variable {F : Fence} {P : Program} {C : Ctx} {Φ : Outs} {ops : Array Oper} {S0 : St} {Φs : Fcts} {tail l : List Oper} {K : St → Prop} {k : Nat} {sl : List (Nat × Value)} {gl : List GF} {t : Tmp} {ty : TypeId} {ps : String} {af : Array Edge}
theorem G_leng {x : Operand} {ts e : TypeId} {v : Value} {n : Nat} {xs : List Value} (hx : evl sl x = some v) (hf : ∀ h, S0.facts h → (∀ q ∈ gl, anc ops k q.k = true → q.F h) → Rd h v n xs) (hu : P.underlying ts = some (.slice e)) (hΨ : fnd Φs k = none) (ht : decide (t < C.n) = true)
    (h : JG F P C ops S0 Φs tail K (k + 1) l ((t, .int .i64 n) :: sl) gl) : JG F P C ops S0 Φs tail K k (⟨some t, .call { callee := .builtin .len, args := #[x], argTypes := #[ts] }, ty, ps, af, none⟩ :: l) sl gl :=
  G_val hΨ ht (fun h a w H => by
    rcases hf h H.facts.1 H.facts.2 with ⟨rfl, rfl, _⟩ | ⟨b, off, cap, rfl, _⟩
    · exact (P_len hx rfl hu) _ H.agr w
    · exact (P_len hx rfl hu) _ H.agr w) h
end
end Go.Hl
