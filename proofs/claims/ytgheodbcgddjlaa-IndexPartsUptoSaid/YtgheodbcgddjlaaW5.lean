/- Walks: bytes.Compare. -/
import Derived.Test.YtgheodbcgddjlaaW4
import Derived.Laws.Externs
set_option linter.unusedVariables false
set_option linter.unusedSimpArgs false
namespace Go.Ix
open Go.Hl
/-- How two rows of bytes stand. -/
def cmpB : List UInt8 → List UInt8 → Int
  | [], [] => 0
  | [], _ :: _ => -1
  | _ :: _, [] => 1
  | a :: x, b :: y => if a = b then cmpB x y else if a < b then -1 else 1
end Go.Ix
namespace Go.Proofs.Ytgheodbcgddjlaa
open Go.RowKit Go.Grow Go.Hl Go.Ix

theorem load_cell {P : Program} {w : World} {a : Addr} {v : Value} (h : w.cell? a = some v) : (load a).run P w = .ok v w := by
  have := run_loadCells_list (P := P) w a [v] (fun j u hj => by
    cases j with
    | zero => simp only [List.getElem?_cons_zero, Option.some.injEq] at hj; subst hj; simpa [Addr.add] using h
    | succ j => simp at hj)
  simp [h]
theorem run_loadB {P : Program} {w : World} : ∀ (l : List UInt8) (b off : Nat) (acc : ByteArray), (∀ j u, (cb l)[j]? = some u → w.cell? ⟨b, off + j, none⟩ = some u) → (Extern.Bytes.loadBytes ⟨b, off, none⟩ l.length acc).run P w = .ok ⟨acc.data ++ l.toArray⟩ w
  | [], b, off, acc, _ => by simp [Extern.Bytes.loadBytes]
  | c :: l, b, off, acc, h => by
    have h0 := h 0 (.int .u8 c.toNat) (by simp [cb])
    have ih := run_loadB (P := P) l b (off + 1) (acc.push c) (fun j u hj => by
      have := h (j + 1) u (by simpa [cb] using hj)
      rwa [show off + 1 + j = off + (j + 1) by omega])
    simp only [List.length_cons, Extern.Bytes.loadBytes, Sem.run_bind]
    rw [load_cell (by simpa using h0)]
    simp only [Result.andThen_ok, add_none]
    have e : (c.toNat : Int).toNat.toUInt8 = c := by simp
    rw [e, ih]
    simp [ByteArray.push]
theorem run_bytesOf {P : Program} {w : World} {h : Hp} (hs : Hsub h w) {v : Value} {l : List UInt8} (hb : Bs h v l) : (Extern.Bytes.bytesOf v).run P w = .ok (bs l) w := by
  rcases hb with ⟨rfl, h1, h2⟩ | ⟨b, off, cap, rfl, _, hr⟩
  · have : l = [] := List.eq_nil_of_length_eq_zero h1
    subst this
    simp [Extern.Bytes.bytesOf]; rfl
  · have := run_loadB (P := P) (w := w) l b off .empty (fun j u hj => cellH.cell hs (hr j u hj))
    simp only [Extern.Bytes.bytesOf]
    rw [this]
    simp [bs]

theorem find_shift {p q : Nat → Bool} (h : ∀ i, q i = p (i + 1)) : ∀ n k, ((List.range' k n).map (· + 1)).find? p = ((List.range' k n).find? q).map (· + 1) := by
  intro n
  induction n with
  | zero => intro k; rfl
  | succ n ih =>
    intro k
    simp only [List.range'_succ, List.map_cons, List.find?_cons, h]
    cases hp : p (k + 1) <;> simp [ih]
theorem cmp_bs : ∀ x y : List UInt8, Extern.BytealgCompare.cmp (bs x) (bs y) = cmpB x y
  | [], [] => rfl
  | [], b :: y => by simp [Extern.BytealgCompare.cmp, cmpB, bs_size]
  | a :: x, [] => by simp [Extern.BytealgCompare.cmp, cmpB, bs_size]
  | a :: x, b :: y => by
    have ih := cmp_bs x y
    have get : ∀ (l : List UInt8) (c : UInt8) (i : Nat), (bs (c :: l))[i + 1]! = (bs l)[i]! := fun l c i => by
      by_cases hi : i < l.length
      · rw [getElem!_pos (bs (c :: l)) (i + 1) (by rw [bs_size]; simpa using hi), getElem!_pos (bs l) i (by rw [bs_size]; exact hi)]; rfl
      · rw [getElem!_neg (bs (c :: l)) (i + 1) (by rw [bs_size]; simpa using hi), getElem!_neg (bs l) i (by rw [bs_size]; exact hi)]
    have g0 : ∀ (l : List UInt8) (c : UInt8), (bs (c :: l))[0]! = c := fun l c => by
      rw [getElem!_pos (bs (c :: l)) 0 (by rw [bs_size]; simp)]; rfl
    unfold Extern.BytealgCompare.cmp at ih ⊢
    simp only [bs_size, List.length_cons] at ih ⊢
    rw [show min (x.length + 1) (y.length + 1) = min x.length y.length + 1 by omega, List.range_succ_eq_map, List.find?_cons]
    simp only [g0, cmpB]
    by_cases hab : a = b
    · subst hab
      simp only [bne_self_eq_false, if_true]
      have := find_shift (p := fun i => (bs (a :: x))[i]! != (bs (a :: y))[i]!) (q := fun i => (bs x)[i]! != (bs y)[i]!) (fun i => by rw [get, get]) (min x.length y.length) 0
      rw [← List.range_eq_range'] at this
      have e : List.map Nat.succ (List.range (min x.length y.length)) = List.map (· + 1) (List.range (min x.length y.length)) := rfl
      rw [e, this, ← ih]
      cases (List.range (min x.length y.length)).find? (fun i => (bs x)[i]! != (bs y)[i]!) with
      | none => simp
      | some i => simp [get]
    · have : (a != b) = true := by simpa using hab
      simp [this, hab, g0]
theorem run_compare {P : Program} {w : World} {h : Hp} (hs : Hsub h w) {u v : Value} {x y : List UInt8} (hu : Bs h u x) (hv : Bs h v y) : (Extern.BytealgCompare.compare #[u, v]).run P w = .ok (.int .i64 (cmpB x y)) w := by
  show Sem.run P (do pure (goInt (Extern.BytealgCompare.cmp (← Extern.Bytes.bytesOf u) (← Extern.Bytes.bytesOf v)))) w = _
  simp [run_bytesOf hs hu, run_bytesOf hs hv, cmp_bs, goInt]

set_option maxRecDepth 100000 in
theorem c38 {u v : Value} {x y : List UInt8} : FnC Try.prog 38 [u, v].toArray (fun h => Bs h u x ∧ Bs h v y) (fun r _ => r = .int .i64 (cmpB x y)) := by
  refine fn_of_J Try.func38 rfl inferInstance 8 Try.ntmps38 (Nat.le_of_ble_eq_true rfl) fun W0 h0 => ?_
  refine J_rs ?_
  refine R_p Wide.wide (P_assign rfl) rfl rfl ?_
  refine JL_nil ?_
  refine J_rs ?_
  refine R_p Wide.wide (P_move rfl) rfl rfl ?_
  refine R_p Wide.wide (P_move rfl) rfl rfl ?_
  refine JL_val (v := .int .i64 (cmpB x y)) (S' := ⟨[(7, .int .i64 (cmpB x y))], [], fun _ => True, inferInstance, []⟩) Wide.wide rfl rfl (fun h a w H => ?_) (fun h a w H => ?_) ?_
  · have hf : ∀ af, (execOp a.eval ⟨some 7, .call { callee := .value (.func 50), args := #[.tmp 5, .tmp 6], argTypes := #[49, 49] }, 3, "bytes.go:29", af, none⟩).run Try.prog w = .ok (.value (.int .i64 (cmpB x y))) w := by
      intro af
      have e1 : a.eval (.tmp 5) = u := H.agr (.tmp 5) _ rfl
      have e2 : a.eval (.tmp 6) = v := H.agr (.tmp 6) _ rfl
      unfold execOp
      simp only [resolve, show a.eval (.func 50) = .func (.func 50) #[] #[] from rfl, Deferred.ofValue, Sem.run_bind, Sem.run_pure, Result.andThen_ok, invoke]
      have hx := run_callFunc_extern (P := Try.prog) Try.func50 (by kernel_rfl) (by kernel_rfl) (by kernel_rfl) (e := Extern.BytealgCompare.compare) (by kernel_rfl) #[u, v] w
      simp [e1, e2, hx, run_compare H.sub H.facts.1 H.facts.2]
    exact hf _
  · exact (H.put (some 7) _ rfl).weaken (S' := ⟨[(7, .int .i64 (cmpB x y))], [], fun _ => True, inferInstance, []⟩) (fun t v hv => by
      simp only [lk] at hv ⊢
      split at hv
      · rename_i e; subst e; simpa [St.put, lk] using hv
      · cases hv) rfl rfl (fun _ => trivial)
  · refine R_p Wide.wide (P_assign rfl) rfl rfl ?_
    refine JL_nil ?_
    exact J_ret (Fin.ret _ (.inl rfl) rfl (Reads.one rfl (RV.tmp rfl)) fun _ _ => rfl)
end Go.Proofs.Ytgheodbcgddjlaa
