/- The statement IndexPartsUptoSaid: whatever the input of bulk at most 1048576, the function answers true and its arguments read as they did. Conditions: none but the statement's own. -/
import Derived.Test.YtgheodbcgddjlaaW23
import Derived.ProofKit
import Derived.OpenShut
import Derived.JoinedCond
import Derived.Carry
import Derived.Deep.Slices
import Derived.ChangeArms
set_option linter.unusedVariables false
set_option linter.unusedSimpArgs false
namespace Go.Proofs.Ytgheodbcgddjlaa
open Go.ChangeShapes Go.WideShapes Go.ChangeAt Go.RowKit Go.Grow Go.Hl Go.Ix

/-! ### What the bound gives -/
theorem bulk_part {H : Type} {d : DataW H} {l : List (DataW H)} (h : d ∈ l) : Rows.uptoBulk d ≤ Rows.uptoBulkAll l := by
  induction l with
  | nil => cases h
  | cons x r ih =>
    simp only [Rows.uptoBulkAll]
    rcases List.mem_cons.1 h with rfl | h
    · omega
    · have := ih h; omega
theorem bulk_one {H : Type} (d : DataW H) : 1 ≤ Rows.uptoBulk d := by
  cases d with
  | lit l => cases l <;> simp [Rows.uptoBulk]
  | nil => simp [Rows.uptoBulk]
  | ptr d => simp [Rows.uptoBulk]
  | slice elems spare => simp [Rows.uptoBulk]
  | agg parts => simp [Rows.uptoBulk]
  | iface t d => simp [Rows.uptoBulk]
  | map entries => simp [Rows.uptoBulk]
  | held h => simp [Rows.uptoBulk]
theorem bulk_length {H : Type} (l : List (DataW H)) : l.length ≤ Rows.uptoBulkAll l := by
  induction l with
  | nil => simp [Rows.uptoBulkAll]
  | cons x r ih => have := bulk_one x; simp only [Rows.uptoBulkAll, List.length_cons]; omega

/-! ### What lies in memory -/
/-- The heap as it stands. -/
def hpOf (W : World) : Hp := fun b => W.heap[b]?
theorem hpOf_sub (W : World) : Hsub (hpOf W) W := fun _ _ h => h
theorem cellH_of {W : World} {a : Addr} {v : Value} (h : W.cell? a = some v) : cellH (hpOf W) a = some v := by
  unfold World.cell? at h
  unfold cellH hpOf
  cases hb : W.heap[a.block]? with
  | none => simp [hb] at h
  | some o =>
    rw [hb] at h
    cases o <;> first | exact h | simp at h
theorem bs_toList (s : ByteArray) : bs s.data.toList = s := by cases s; simp [bs]
theorem flat_inv {α : Type} (f : α → List Value) {z : Nat} (hz : ∀ x, (f x).length = z) : ∀ {L : List α} {j : Nat} {u : Value}, (L.flatMap f)[j]? = some u → ∃ i r x, j = i * z + r ∧ r < z ∧ L[i]? = some x ∧ (f x)[r]? = some u
  | [], j, u, h => by simp at h
  | y :: L, j, u, h => by
    rw [List.flatMap_cons] at h
    rcases Nat.lt_or_ge j z with hj | hj
    · rw [List.getElem?_append_left (by rw [hz]; exact hj)] at h
      exact ⟨0, j, y, by omega, hj, rfl, h⟩
    · rw [List.getElem?_append_right (by rw [hz]; exact hj), hz] at h
      obtain ⟨i, r, x, h1, h2, h3, h4⟩ := flat_inv f hz h
      exact ⟨i + 1, r, x, by rw [Nat.succ_mul]; omega, h2, by simpa using h3, h4⟩
theorem len9 {α : Type} {l : List α} (h : l.length = 9) : ∃ a b c d e f g i j, l = [a, b, c, d, e, f, g, i, j] := by
  match l, h with
  | [a, b, c, d, e, f, g, i, j], _ => exact ⟨a, b, c, d, e, f, g, i, j, rfl⟩

section
variable {H : Type} {enc : TypeId × Value → H} {W : World} {sp : Nat → Bool}
theorem cof2 : Try.prog.cellsOf 2 = 1 := by kernel_rfl
theorem cof3 : Try.prog.cellsOf 3 = 1 := by kernel_rfl
theorem cof4 : Try.prog.cellsOf 4 = 1 := by kernel_rfl
theorem cof9 : Try.prog.cellsOf 9 = 1 := by kernel_rfl
theorem cof36 : Try.prog.cellsOf 36 = 3 := by kernel_rfl
theorem cof43 : Try.prog.cellsOf 43 = 9 := by kernel_rfl
theorem get_of {α : Type} {xs : List α} {n i : Nat} (h : xs.length = n) (hi : i < n) : ∃ x, xs[i]? = some x ∧ x ∈ xs := ⟨xs[i], by simp, List.getElem_mem _⟩
set_option maxRecDepth 100000 in
theorem open_V {n : Nat} {cs : List Value} {x : DataW H × List MemPlace} (h : DataW.trod enc Try.prog W 0 sp true n 36 cs = some x) : ∃ v : V, cs = v.cells ∧ v.s.length ≤ Rows.uptoBulk x.1 := by
  obtain ⟨xs, m, _, rfl, hlen, hxs, hf⟩ := DataW.trod_struct Try.underlying36 h
  rw [cof36] at hlen
  obtain ⟨c0, c1, c2, rfl⟩ : ∃ c0 c1 c2, cs = [c0, c1, c2] := by
    match cs, hlen with
    | [a, b, c], _ => exact ⟨a, b, c, rfl⟩
  have hx3 : xs.length = 3 := hxs
  obtain ⟨x0, e0, _⟩ := get_of hx3 (show 0 < 3 by omega)
  obtain ⟨x1, e1, _⟩ := get_of hx3 (show 1 < 3 by omega)
  obtain ⟨x2, e2, m2⟩ := get_of hx3 (show 2 < 3 by omega)
  have f0 := hf 0 _ rfl
  have f1 := hf 1 _ rfl
  have f2 := hf 2 _ rfl
  rw [e0] at f0; rw [e1] at f1; rw [e2] at f2
  obtain ⟨k, hk, _⟩ := DataW.trod_int Try.underlying3 f0
  obtain ⟨nn, hn, _⟩ := DataW.trod_int Try.underlying2 f1
  obtain ⟨s, hs, hx2, _⟩ := DataW.trod_string Try.underlying9 f2
  have hk : [c0] = [.int .i64 k] := hk
  have hn : [c1] = [.int .i64 nn] := hn
  have hs : [c2] = [.string s] := hs
  obtain rfl := (List.cons.inj hk).1
  obtain rfl := (List.cons.inj hn).1
  obtain rfl := (List.cons.inj hs).1
  refine ⟨⟨k, nn, s.data.toList⟩, by simp [V.cells, bs_toList], ?_⟩
  have h1 := bulk_part (List.mem_map_of_mem (f := (·.1)) m2)
  have h2 : Rows.uptoBulk x2.1 = s.data.toList.length + 1 := by rw [hx2]; simp [Rows.uptoBulk]
  have h3 : Rows.uptoBulk (DataW.agg (xs.map (·.1))) = Rows.uptoBulkAll (xs.map (·.1)) + 1 := by simp [Rows.uptoBulk]
  show s.data.toList.length ≤ Rows.uptoBulk (DataW.agg (xs.map (·.1)))
  rw [h3]
  have h4 : Rows.uptoBulk x2.1 ≤ Rows.uptoBulkAll (xs.map (·.1)) := h1
  omega
set_option maxRecDepth 100000 in
theorem open_D {n : Nat} {cs : List Value} {x : DataW H × List MemPlace} (h : DataW.trod enc Try.prog W 0 sp true n 43 cs = some x) : ∃ d : D, cs = d.cells ∧ d.v.s.length ≤ Rows.uptoBulk x.1 := by
  obtain ⟨xs, m, _, rfl, hlen, hxs, hf⟩ := DataW.trod_struct Try.underlying43 h
  rw [cof43] at hlen
  obtain ⟨c0, c1, c2, c3, c4, c5, c6, c7, c8, rfl⟩ := len9 hlen
  have hx7 : xs.length = 7 := hxs
  obtain ⟨x0, e0, _⟩ := get_of hx7 (show 0 < 7 by omega)
  obtain ⟨x1, e1, _⟩ := get_of hx7 (show 1 < 7 by omega)
  obtain ⟨x2, e2, m2⟩ := get_of hx7 (show 2 < 7 by omega)
  obtain ⟨x3, e3, _⟩ := get_of hx7 (show 3 < 7 by omega)
  obtain ⟨x4, e4, _⟩ := get_of hx7 (show 4 < 7 by omega)
  obtain ⟨x5, e5, _⟩ := get_of hx7 (show 5 < 7 by omega)
  obtain ⟨x6, e6, _⟩ := get_of hx7 (show 6 < 7 by omega)
  have f0 := hf 0 _ rfl
  have f1 := hf 1 _ rfl
  have f2 := hf 2 _ rfl
  have f3 := hf 3 _ rfl
  have f4 := hf 4 _ rfl
  have f5 := hf 5 _ rfl
  have f6 := hf 6 _ rfl
  rw [e0] at f0; rw [e1] at f1; rw [e2] at f2; rw [e3] at f3; rw [e4] at f4; rw [e5] at f5; rw [e6] at f6
  obtain ⟨y0, h0, _⟩ := DataW.trod_int Try.underlying2 f0
  obtain ⟨y1, h1, _⟩ := DataW.trod_int Try.underlying2 f1
  obtain ⟨v, h2, hv⟩ := open_V f2
  obtain ⟨y3, h3, _⟩ := DataW.trod_int Try.underlying2 f3
  obtain ⟨y4, h4, _⟩ := DataW.trod_bool Try.underlying4 f4
  obtain ⟨y5, h5, _⟩ := DataW.trod_int Try.underlying2 f5
  obtain ⟨y6, h6, _⟩ := DataW.trod_int Try.underlying2 f6
  have k0 : [c0] = [.int .i64 y0] := h0
  have k1 : [c1] = [.int .i64 y1] := h1
  have k2 : [c2, c3, c4] = v.cells := h2
  have k3 : [c5] = [.int .i64 y3] := h3
  have k4 : [c6] = [.bool y4] := h4
  have k5 : [c7] = [.int .i64 y5] := h5
  have k6 : [c8] = [.int .i64 y6] := h6
  clear h0 h1 h2 h3 h4 h5 h6 f0 f1 f2 f3 f4 f5 f6 hf
  simp only [V.cells, List.cons.injEq, and_true] at k0 k1 k2 k3 k4 k5 k6
  obtain ⟨rfl, rfl, rfl⟩ := k2
  subst k0 k1 k3 k4 k5 k6
  refine ⟨⟨y0, y1, v, y3, y4, y5, y6⟩, rfl, ?_⟩
  have h7 : Rows.uptoBulk x2.1 ≤ Rows.uptoBulkAll (xs.map (·.1)) := bulk_part (List.mem_map_of_mem (f := (·.1)) m2)
  have h8 : Rows.uptoBulk (DataW.agg (xs.map (·.1))) = Rows.uptoBulkAll (xs.map (·.1)) + 1 := by simp [Rows.uptoBulk]
  show v.s.length ≤ Rows.uptoBulk (DataW.agg (xs.map (·.1)))
  rw [h8]; omega
set_option maxRecDepth 100000 in
/-- A list of datoms that came in. -/
theorem open_Ds {v : Value} {d : DataW H} {ps : List MemPlace} (hval : Value.okWide Try.prog W .any 0 22 v) (h : DataW.Trod enc Try.prog W 0 (fun _ => true) true 22 v d ps) (hb : Rows.uptoBulk d ≤ 1048576) :
    ∃ l : List D, RdD (hpOf W) v l ∧ l.length ≤ 1048576 ∧ ∀ d ∈ l, d.v.s.length ≤ 1048576 := by
  obtain ⟨fuel, hf⟩ := h
  obtain ⟨a0, len0, cap0, rfl⟩ := okWide_slice Try.underlying22 hval
  rcases Deep.open_slice Try.underlying22 hf with ⟨hc, _⟩ | ⟨a, len, cap, m, n, Dd, Pl, hc, _, hl, hm, rfl, hx, hel⟩
  · simp only [Value.cells, List.cons.injEq, and_true] at hc
    have hc : Value.slice a0 len0 cap0 = .slice none 0 0 := by simpa [Value.cells] using hc
    rw [hc]
    exact ⟨[], .inl ⟨rfl, rfl, rfl⟩, Nat.zero_le _, fun d hd => by cases hd⟩
  · have hc : Value.slice a0 len0 cap0 = .slice (some a) len m := by simpa [Value.cells] using hc
    rw [hc] at hval ⊢
    have hspot : a.spot = none := by
      simp only [Value.okWide, Try.underlying22, Cell.okWide, Cell.ok, World.has] at hval
      exact hval.2.2.2.1
    obtain ⟨b, off, spot⟩ := a
    obtain rfl : spot = none := hspot
    simp only [Prod.mk.injEq] at hx
    obtain ⟨rfl, _⟩ := hx
    have hbl : Rows.uptoBulk (DataW.slice ((List.range len).map Dd) ((List.range (m - len)).map fun j => Dd (len + j))) = Rows.uptoBulkAll ((List.range len).map Dd) + Rows.uptoBulkAll ((List.range (m - len)).map fun j => Dd (len + j)) + 1 := by simp [Rows.uptoBulk]
    have hbl' : Rows.uptoBulkAll ((List.range len).map Dd) + Rows.uptoBulkAll ((List.range (m - len)).map fun j => Dd (len + j)) + 1 ≤ 1048576 := by rw [← hbl]; exact hb
    have hlen := bulk_length ((List.range len).map Dd)
    simp only [List.length_map, List.length_range] at hlen
    have key : ∀ i, ∃ d : D, i < len → (∀ r u, d.cells[r]? = some u → cellH (hpOf W) ⟨b, off + (i * 9 + r), none⟩ = some u) ∧ d.v.s.length ≤ 1048576 := fun i => by
      by_cases hi : i < len
      · obtain ⟨cs, h1, h2⟩ := hel i (by omega)
        obtain ⟨d, rfl, hd⟩ := open_D h2
        refine ⟨d, fun _ => ⟨fun r u hr => ?_, ?_⟩⟩
        · obtain ⟨_, _, h3⟩ := World.cells?_some h1
          have hr9 : r < 9 := by have := (List.getElem?_eq_some_iff.1 hr).1; rwa [D.cells_length] at this
          have h4 := h3 r (by rw [cof43]; exact hr9)
          rw [cof43, add_none, add_none, hr, Nat.add_assoc] at h4
          exact cellH_of h4
        · have h5 : Rows.uptoBulk (Dd i) ≤ Rows.uptoBulkAll ((List.range len).map Dd) := bulk_part (List.mem_map_of_mem (List.mem_range.2 hi))
          have hd : d.v.s.length ≤ Rows.uptoBulk (Dd i) := hd
          omega
      · exact ⟨D0, fun h => absurd h hi⟩
    obtain ⟨f, hfD⟩ := Classical.axiomOfChoice key
    refine ⟨(List.range len).map f, .inr ⟨b, off, m, by simp, by simpa using hl, fun j u hj => ?_⟩, by simp; omega, fun d hd => ?_⟩
    · obtain ⟨i, r, x, rfl, hr, hi, hu⟩ := flat_inv D.cells D.cells_length hj
      have hil : i < len := by have := (List.getElem?_eq_some_iff.1 hi).1; simpa using this
      rw [List.getElem?_map, List.getElem?_range hil] at hi
      simp only [Option.map_some, Option.some.injEq] at hi
      subst hi
      exact (hfD i hil).1 r u hu
    · obtain ⟨i, hi, rfl⟩ := List.mem_map.1 hd
      exact (hfD i (List.mem_range.1 hi)).2
end

theorem own : ownKnob Try.prog.godebug = none := by kernel_rfl
theorem laidOut' : laidOutB Try.prog = true := by kernel_rfl
theorem rec22 : Try.prog.readableRec 22 = true := by kernel_rfl
theorem rec3 : Try.prog.readableRec 3 = true := by kernel_rfl

set_option maxRecDepth 100000 in
theorem contract (H : Type) (enc : TypeId × Value → H) (W : World) (args : Array Value) (ds gs : List (DataW H)) (before : List MemPlace)
    (hval : ∀ (j : Nat) t v, Try.f3.params[j]? = some t → args[j]? = some v → Value.okWide Try.prog W .any 0 t v)
    (hW : DataW.Whole enc Try.prog Try.f3.params.toList Rows.indexPartsSpec.vars false W args.toList ds gs before) (hk : Rows.uptoSmall H (ds ++ gs) = true) :
    Calls Try.prog 3 args W fun e W' => ∃ v, e = .returned v ∧ Rows.indexPartsSpec.post enc Try.prog Try.f3 false true false false W args v W' := by
  have hW' := hW
  have hlt := hW.lt
  obtain ⟨p, q, hA0, hV, rfl, hfz, hnd⟩ := hW
  have hA : DataW.TrodAll enc Try.prog W 0 (fun _ => true) true Try.f3.params.toList args.toList ds p := hA0
  rw [Try.params3] at hA hval
  obtain ⟨v0, v1, v2, d0, d1, d2, p0, p1, p2, rfl, rfl, rfl, h0, h1, h2⟩ := trodAll_three hA
  obtain ⟨rfl, rfl⟩ := trodVars_none hV
  obtain ⟨cut, rfl, rfl, rfl, wc⟩ := open_int Try.underlying3 (hval 2 3 v2 rfl rfl) h2
  clear hA0
  have hk' : Rows.uptoBulkAll ([d0, d1, .lit (.int .i64 cut)] ++ []) ≤ 1048576 := of_decide_eq_true hk
  simp only [List.append_nil, Rows.uptoBulkAll] at hk'
  obtain ⟨l, hl, hl1, hl2⟩ := open_Ds (hval 0 22 v0 rfl rfl) h0 (by omega)
  obtain ⟨m, hm, hm1, hm2⟩ := open_Ds (hval 1 22 v1 rfl rfl) h1 (by omega)
  refine (c3 (lv := v0) (mv := v1) (cut := cut) hl1 hl2 hm1 hm2 (hpOf W) W (hpOf_sub W) ⟨hl, hm⟩ ⟨by simp, List.Pairwise.nil, by simp⟩).mono ?_
  rintro e W' ⟨v, R', h', rfl, L⟩
  obtain ⟨_, hv⟩ := L.post
  subst hv
  have hb : Below W.heap.size W W' := ⟨L.os, L.tape, L.output, L.size, fun k hk => L.keep k hk (by simp)⟩
  have hb0 : ∀ x ∈ p0 ++ p1, x.block < W.heap.size := fun x hx => hlt x (by simpa using hx)
  refine ⟨_, rfl, _, _, _, [], p0 ++ (p1 ++ ([] ++ [])), [], hW', trodAll_mk1 (shut_bool Try.underlying4 _), ?_, rfl, hb.frame _, fun h => by cases h⟩
  rw [Try.params3]
  exact ⟨p0, _, Below.trod laidOut' rec22 (by decide) h0 hb (fun x hx => hb0 x (List.mem_append_left _ hx)), ⟨p1, _, Below.trod laidOut' rec22 (by decide) h1 hb (fun x hx => hb0 x (List.mem_append_right _ hx)), ⟨[], [], shut_int Try.underlying3 wc, rfl, rfl⟩, rfl⟩, rfl⟩

set_option maxRecDepth 100000 in
theorem lifted (os : Os) (started : os.Started) (H : Type) (enc : TypeId × Value → H) (F : Stop.Interp) :
    ReturnsInHanded {} Try.checked os 3 .any ((Rows.OpenSpec.upto Rows.indexPartsSpec).pre6 enc Try.prog Try.f3 Rows.indexPartsUptoRow.domain false) (((Rows.OpenSpec.upto Rows.indexPartsSpec).at F).post enc Try.prog Try.f3 false true false false) := by
  refine returnsInHanded_of_cond (C := Try.checked) (s := Rows.OpenSpec.upto Rows.indexPartsSpec) (k := Rows.uptoSmall) rfl own started (by kernel_rfl) Try.func3
    (OpenSpec.witness (enc := enc) (C := Try.checked) (s := Rows.OpenSpec.upto Rows.indexPartsSpec) (k := Rows.uptoSmall) rfl false ⟨#[], #[.slice none 0 0, .slice none 0 0, .int .i64 0], []⟩ 8 (by kernel_rfl) (by kernel_rfl) (by kernel_rfl)
      (x := ([.nil, .nil, .lit (.int .i64 0)], [], [])) (by kernel_rfl) rfl (by kernel_rfl)) ?_
  intro W base args ds gs before hval hW _ hk _
  exact contract H enc W args ds gs before hval hW hk

theorem proved : Rows.IndexPartsUptoSaid :=
  OpenClaim.holds_of_cond 3 Try.f3 rfl rfl rfl rfl rfl rfl rfl ⟨rfl, rfl, rfl, rfl, rfl⟩ rfl rfl rfl rfl rfl (by kernel_rfl) Try.func3 (by kernel_rfl)
    (of_decide_eq_true (by kernel_rfl)) (by unfold Func.isWrapper; first | (rw [if_pos (by decide +kernel)]; kernel_rfl) | (rw [if_neg (by decide +kernel)]; exact ⟨rfl, rfl⟩))
    (fun os started H enc _ F => lifted os started H enc F)
#print axioms proved
end Go.Proofs.Ytgheodbcgddjlaa
