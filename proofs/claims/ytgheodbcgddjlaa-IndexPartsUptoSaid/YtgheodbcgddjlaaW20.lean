/- Walks: the statement's own small functions; a prefix; the datoms of a view. -/
import Derived.Test.YtgheodbcgddjlaaW19
import Derived.Laws.StructEq
set_option linter.unusedVariables false
set_option linter.unusedSimpArgs false
namespace Go.Hl
open Go.RowKit Go.Grow Go.Ix
theorem P_min {P : Program} {sl : List (Nat × Value)} {x y : Operand} {d : Option Tmp} {ty : TypeId} {ps : String} {af : Array Edge} {gd : Option (Nat × Bool)} {ts : Array TypeId} {k k' : IntKind} {a b : Int} (h : evl sl x = some (.int k a)) (h2 : evl sl y = some (.int k' b)) :
    Pure P sl ⟨d, .call { callee := .builtin .min, args := #[x, y], argTypes := ts }, ty, ps, af, gd⟩ (.int k (min a b)) := fun ρ hρ w => by
  unfold execOp; simp [resolve, hρ _ _ h, hρ _ _ h2, invoke, go_sem]
  split <;> omega
end Go.Hl
namespace Go.Ix
/-- The chapter's datoms. -/
def fewL : List D := [⟨20, 10, ⟨1, 1, []⟩, 1, true, -9223372036854775808, 9223372036854775807⟩, ⟨20, 10, ⟨1, 1, []⟩, 2, false, 0, 5⟩, ⟨21, 10, ⟨1, 2, []⟩, 1, true, -9223372036854775808, 9223372036854775807⟩]
def bulkL : List D → Int
  | [] => 0
  | d :: l => 20 + d.v.s.length + bulkL l
theorem bulkL_bound : ∀ l : List D, (∀ d ∈ l, d.v.s.length ≤ 1048576) → 0 ≤ bulkL l ∧ bulkL l ≤ 1048596 * l.length
  | [], _ => by simp [bulkL]
  | d :: l, h => by
    have h1 := bulkL_bound l (fun e he => h e (List.mem_cons_of_mem _ he))
    have h2 := h d (List.mem_cons_self ..)
    simp only [bulkL, List.length_cons]; omega
theorem bulkL_snoc : ∀ (l : List D) (d : D), bulkL (l ++ [d]) = bulkL l + 20 + d.v.s.length
  | [], d => by simp [bulkL]
  | e :: l, d => by simp only [List.cons_append, bulkL, bulkL_snoc l d]; omega
def greatL (l : List D) : Int := if 4000 < bulkL l then 1 else 0
end Go.Ix
namespace Go.Proofs.Ytgheodbcgddjlaa
open Go.RowKit Go.Grow Go.Hl Go.Ix
theorem fo {P : Program} {t : TypeId} {fs : Array Field} (h : P.underlying t = some (.struct fs)) : P.fieldsOf t = fs := by unfold Program.fieldsOf; rw [h]
theorem eqFields_refl {P : Program} (n : Nat) (xs : Array Value) (w : World) : ∀ fs : List Field, (∀ f ∈ fs, f.name ≠ "_" → ∃ v, (part f.type xs f.offset).run P w = .ok v w ∧ (Op.equalIn n f.type v v).run P w = .ok true w) → (Op.eqFields n xs xs fs).run P w = .ok true w
  | [], _ => by simp [Op.eqFields]
  | f :: fs, h => by
    have ih := eqFields_refl n xs w fs (fun g hg => h g (List.mem_cons_of_mem _ hg))
    unfold Op.eqFields
    split
    · rename_i hn
      obtain ⟨v, h1, h2⟩ := h f (List.mem_cons_self ..) hn
      simp only [Sem.run_bind, h1, Result.andThen_ok, h2, Bool.not_true, Bool.false_eq_true, if_false]
      exact ih
    · exact ih
set_option maxRecDepth 100000 in
theorem eqV (n : Nat) (v : V) (w : World) : (Op.equalIn (n + 2) 36 (.agg v.cells.toArray) (.agg v.cells.toArray)).run Try.prog w = .ok true w := by
  have hf := fo Try.underlying36
  rw [run_equalIn_agg w (n + 1) 36 _ _ (by rw [hf]; exact Try.underlying36) (by kernel_rfl), hf]
  refine eqFields_refl _ _ _ _ fun f hf _ => ?_
  simp only [List.mem_cons, List.not_mem_nil, or_false] at hf
  rcases hf with rfl | rfl | rfl
  · exact ⟨.int .i64 v.k, by simp [part, run_isAgg Try.underlying3, aggB, V.cells, sizeOf, typeInfo], by rw [run_equalIn_int w n _ _ .i64 _ _ Try.underlying3]; simp⟩
  · exact ⟨.int .i64 v.n, by simp [part, run_isAgg Try.underlying2, aggB, V.cells, sizeOf, typeInfo], by rw [run_equalIn_int w n _ _ .i64 _ _ Try.underlying2]; simp⟩
  · exact ⟨.string (bs v.s), by simp [part, run_isAgg Try.underlying9, aggB, V.cells, sizeOf, typeInfo], by rw [run_equalIn_string w n _ _ _ Try.underlying9]; simp⟩
set_option maxRecDepth 100000 in
theorem eqD (n : Nat) (d : D) (w : World) : (Op.equalIn (n + 3) 43 (.agg d.cells.toArray) (.agg d.cells.toArray)).run Try.prog w = .ok true w := by
  have hf := fo Try.underlying43
  have e1 := fun a => run_equalIn_int (P := Try.prog) w (n + 1) 2 .i64 .i64 a a Try.underlying2
  rw [run_equalIn_agg w (n + 2) 43 _ _ (by rw [hf]; exact Try.underlying43) (by kernel_rfl), hf]
  refine eqFields_refl _ _ _ _ fun f hf _ => ?_
  simp only [List.mem_cons, List.not_mem_nil, or_false] at hf
  rcases hf with rfl | rfl | rfl | rfl | rfl | rfl | rfl
  · exact ⟨.int .i64 d.e, by simp [part, run_isAgg Try.underlying2, aggB, D.cells, sizeOf, typeInfo], by rw [e1]; simp⟩
  · exact ⟨.int .i64 d.a, by simp [part, run_isAgg Try.underlying2, aggB, D.cells, sizeOf, typeInfo], by rw [e1]; simp⟩
  · exact ⟨.agg d.v.cells.toArray, by
      have hs : (sizeOf 36).run Try.prog w = .ok 3 w := by
        have h0 := Try.type36
        generalize Try.prog.info? 36 = q at h0
        simp [sizeOf, typeInfo, show Try.prog.info? 36 = some _ from Try.type36]
        rfl
      simp [part, Sem.run_bind, run_isAgg Try.underlying36, aggB, D.cells, V.cells, hs], eqV n d.v w⟩
  · exact ⟨.int .i64 d.t, by simp [part, run_isAgg Try.underlying2, aggB, D.cells, sizeOf, typeInfo], by rw [e1]; simp⟩
  · exact ⟨.bool d.add, by simp [part, run_isAgg Try.underlying4, aggB, D.cells, sizeOf, typeInfo], by rw [run_equalIn_bool w (n + 1) _ _ _ Try.underlying4]; simp⟩
  · exact ⟨.int .i64 d.fr, by simp [part, run_isAgg Try.underlying2, aggB, D.cells, sizeOf, typeInfo], by rw [e1]; simp⟩
  · exact ⟨.int .i64 d.to, by simp [part, run_isAgg Try.underlying2, aggB, D.cells, sizeOf, typeInfo], by rw [e1]; simp⟩
theorem P_eqd {sl : List (Nat × Value)} {x y : Operand} {dd : Option Tmp} {ty : TypeId} {ps : String} {af : Array Edge} {gd : Option (Nat × Bool)} {t' : TypeId} {d : D} (h : evl sl x = some (.agg d.cells.toArray)) (h2 : evl sl y = some (.agg d.cells.toArray)) : Pure Try.prog sl ⟨dd, .binOp .eql 43 x y t', ty, ps, af, gd⟩ (.bool true) := fun ρ hρ w => by
  unfold execOp
  simp only [hρ _ _ h, hρ _ _ h2, Sem.run_bind]
  rw [run_eqGuard_agg w .eql 43 x y _ _ (by kernel_rfl)]
  simp only [Result.andThen_ok, run_eql_struct, eqD 9997 d w]
  simp
theorem P_ned {sl : List (Nat × Value)} {x y : Operand} {dd : Option Tmp} {ty : TypeId} {ps : String} {af : Array Edge} {gd : Option (Nat × Bool)} {t' : TypeId} {d : D} (h : evl sl x = some (.agg d.cells.toArray)) (h2 : evl sl y = some (.agg d.cells.toArray)) : Pure Try.prog sl ⟨dd, .binOp .neq 43 x y t', ty, ps, af, gd⟩ (.bool false) := fun ρ hρ w => by
  unfold execOp
  simp only [hρ _ _ h, hρ _ _ h2, Sem.run_bind]
  rw [run_eqGuard_agg w .neq 43 x y _ _ (by kernel_rfl)]
  simp only [Result.andThen_ok, run_neq_struct, eqD 9997 d w]
  simp

set_option maxRecDepth 100000 in
theorem c10  : FnC Try.prog 10 [].toArray (fun _ => True) (fun u h => RdD h u fewL) := by
  refine fn_of_J Try.func10 rfl inferInstance 12 Try.ntmps10 (Nat.le_of_ble_eq_true rfl) fun W0 h0 => ?_
  refine J_rs ?_
  refine R_p Wide.wide (P_assign rfl) rfl rfl ?_
  refine JL_nil ?_
  refine J_rs ?_
  refine R_p Wide.wide (P_build [1, 1, 1] Try.underlying36 Try.type36 rfl rfl (ivs := [(0, .int .i64 1), (1, .int .i64 1)]) (cs := V.cells ⟨1, 1, []⟩) rfl rfl) rfl rfl ?_
  refine R_alloc Wide.wide Try.type36 rfl rfl rfl (fun b1 => ?_)
  refine R_store Wide.wide 0 (vs := V.cells ⟨1, 1, []⟩) (cs' := V.cells ⟨1, 1, []⟩) rfl rfl rfl rfl Try.type36 rfl (Nat.le_of_ble_eq_true rfl) rfl rfl rfl ?_
  refine JL_nil ?_
  refine J_rs ?_
  refine R_p Wide.wide (P_build [1, 1, 1] Try.underlying36 Try.type36 rfl rfl (ivs := [(0, .int .i64 1), (1, .int .i64 2)]) (cs := V.cells ⟨1, 2, []⟩) rfl rfl) rfl rfl ?_
  refine R_alloc Wide.wide Try.type36 rfl rfl rfl (fun b2 => ?_)
  refine R_store Wide.wide 0 (vs := V.cells ⟨1, 2, []⟩) (cs' := V.cells ⟨1, 2, []⟩) rfl rfl rfl rfl Try.type36 rfl (Nat.le_of_ble_eq_true rfl) rfl rfl rfl ?_
  refine JL_nil ?_
  refine J_rs ?_
  refine R_loadbs Wide.wide 1 (vs := V.cells ⟨1, 1, []⟩) rfl rfl _ Try.underlying36 rfl Try.type36 rfl rfl rfl ?_
  refine R_p Wide.wide (P_build [1, 1, 3, 1, 1, 1, 1] Try.underlying43 Try.type43 rfl rfl (ivs := [(0, .int .i64 20), (1, .int .i64 10), (2, .agg (V.cells ⟨1, 1, []⟩).toArray), (3, .int .i64 1), (4, .bool true), (5, .int .i64 (-9223372036854775808)), (6, .int .i64 9223372036854775807)]) (cs := (fewL.getD 0 D0).cells) rfl rfl) rfl rfl ?_
  refine R_loadbs Wide.wide 1 (vs := V.cells ⟨1, 1, []⟩) rfl rfl _ Try.underlying36 rfl Try.type36 rfl rfl rfl ?_
  refine R_p Wide.wide (P_build [1, 1, 3, 1, 1, 1, 1] Try.underlying43 Try.type43 rfl rfl (ivs := [(0, .int .i64 20), (1, .int .i64 10), (2, .agg (V.cells ⟨1, 1, []⟩).toArray), (3, .int .i64 2), (6, .int .i64 5)]) (cs := (fewL.getD 1 D0).cells) rfl rfl) rfl rfl ?_
  refine R_loadbs Wide.wide 0 (vs := V.cells ⟨1, 2, []⟩) rfl rfl _ Try.underlying36 rfl Try.type36 rfl rfl rfl ?_
  refine R_p Wide.wide (P_build [1, 1, 3, 1, 1, 1, 1] Try.underlying43 Try.type43 rfl rfl (ivs := [(0, .int .i64 21), (1, .int .i64 10), (2, .agg (V.cells ⟨1, 2, []⟩).toArray), (3, .int .i64 1), (4, .bool true), (5, .int .i64 (-9223372036854775808)), (6, .int .i64 9223372036854775807)]) (cs := (fewL.getD 2 D0).cells) rfl rfl) rfl rfl ?_
  refine R_bslice Wide.wide Try.underlying22 Try.type43 rfl (ivs := [(0, .agg (fewL.getD 0 D0).cells.toArray), (1, .agg (fewL.getD 1 D0).cells.toArray), (2, .agg (fewL.getD 2 D0).cells.toArray)]) (cs := fewL.flatMap D.cells) rfl rfl rfl rfl (fun b11 => ?_)
  refine R_p Wide.wide (P_assign rfl) rfl rfl ?_
  refine JL_nil ?_
  refine J_pubbox (b := b11) (t := 43) (cs := fewL.flatMap D.cells) [] _ rfl ?_
  refine J_ret ?_
  refine Fin.ret _ (.inl rfl) rfl (Reads.one rfl (RV.tmp rfl)) fun h hf => .inr ⟨b11, 0, 3, rfl, Nat.le_refl _, RdC.of_cells hf.2⟩

set_option maxRecDepth 100000 in
theorem c5 {v : Value} {l : List D} (hl : l.length ≤ 1048576) (hs : ∀ d ∈ l, d.v.s.length ≤ 1048576) : FnC Try.prog 5 [v].toArray (fun h => RdD h v l) (fun u _ => u = .int .i64 (greatL l)) := by
  refine fn_of_J Try.func5 rfl inferInstance 23 Try.ntmps5 (Nat.le_of_ble_eq_true rfl) fun W0 h0 => ?_
  refine J_rs ?_
  refine R_p Wide.wide (P_assign rfl) rfl rfl ?_
  refine JL_nil ?_
  refine J_rs ?_
  refine R_p Wide.wide (P_assign rfl) rfl rfl ?_
  refine JL_nil ?_
  refine J_seq ?_
  refine J_rs ?_
  refine R_p Wide.wide (P_assign rfl) rfl rfl ?_
  refine JL_nil ?_
  refine J_block ?_
  refine J_round (ι := {i : Nat // i ≤ l.length}) (fun i => ⟨[(0, v), (3, .int .i64 (bulkL (l.take i.1))), (4, .int .i64 (i.1 : Nat))], [], fun h => RdD h v l, inferInstance, []⟩) (fun i => l.length - i.1) ⟨0, Nat.zero_le _⟩ (Le.mk ⟨rfl, rfl, rfl, trivial⟩ rfl rfl fun _ h => h) ?_
  rintro ⟨i, hi⟩
  dsimp only at hi ⊢
  refine J_seq ?_
  refine J_rs ?_
  refine R_p Wide.wide (P_move rfl) rfl rfl ?_
  refine R_p Wide.wide (P_move rfl) rfl rfl ?_
  refine R_lenf Wide.wide rfl (fun h hf => hf) Try.underlying22 rfl ?_
  refine R_p Wide.wide (P_lss rfl rfl) rfl rfl ?_
  refine JL_nil ?_
  refine J_ifs rfl (fun hb8 => ?_) (fun hb8 => ?_)
  · refine J_skip ?_
    show J _ _ _ _ _ _
    refine J_seq ?_
    refine J_block ?_
    refine J_region ?_
    have hlt : i < l.length := by have := of_decide_eq_true hb8; omega
    have hget : l[i]? = some l[i] := List.getElem?_eq_getElem _
    have htk : l.take (i + 1) = l.take i ++ [l[i]] := take_next hlt
    have hsd : l[i].v.s.length ≤ 1048576 := hs _ (List.getElem_mem _)
    generalize l[i] = d at hget htk hsd
    have hbk := bulkL_bound (l.take i) (fun e he => hs e (List.mem_of_mem_take he))
    have hlt' := List.length_take_le i l
    refine R_p Wide.wide (P_move rfl) rfl rfl ?_
    refine R_p Wide.wide (P_add rfl rfl (bulkL (l.take i) + 20) (w64 (by omega))) rfl rfl ?_
    refine R_p Wide.wide (P_move rfl) rfl rfl ?_
    refine R_p Wide.wide (P_move rfl) rfl rfl ?_
    refine R_indexf Wide.wide rfl rfl (fun h hf => hf) hlt Try.underlying22 Try.type43 rfl rfl (fun b15 off15 => ?_)
    refine R_p Wide.wide (P_fieldAddr rfl Try.underlying43 rfl Try.type36 rfl rfl) rfl rfl ?_
    refine R_p Wide.wide (P_fieldAddr rfl Try.underlying36 rfl Try.type9 rfl rfl) rfl rfl ?_
    refine R_load Wide.wide rfl _ Try.underlying9 rfl rfl (fun h hf => RdC.elem hf.2 D.cells_length hget 4 _ rfl) ?_
    refine R_p Wide.wide (P_lenl rfl rfl Try.underlying9) rfl rfl ?_
    refine R_p Wide.wide (P_add rfl rfl (bulkL (l.take i) + 20 + d.v.s.length) (w64 (by omega))) rfl rfl ?_
    refine R_p Wide.wide (P_assign rfl) rfl rfl ?_
    refine JL_nil ?_
    refine J_region ?_
    refine R_p Wide.wide (P_move rfl) rfl rfl ?_
    refine R_p Wide.wide (P_add rfl rfl ((i + 1 : Nat) : Int) (w64x (by omega) (by omega))) rfl rfl ?_
    refine R_p Wide.wide (P_assign rfl) rfl rfl ?_
    refine JL_nil ?_
    exact ⟨⟨i + 1, hlt⟩, by simp only; omega, Le.mk ⟨rfl, by rw [htk, bulkL_snoc]; rfl, rfl, trivial⟩ rfl rfl fun _ hf => hf.1⟩
  · refine J_exit ?_
    show J _ _ _ _ _ _
    refine J_seq ?_
    refine J_rs ?_
    refine R_p Wide.wide (P_move rfl) rfl rfl ?_
    refine R_p Wide.wide (P_gtr rfl rfl) rfl rfl ?_
    refine JL_nil ?_
    refine J_ifs rfl (fun hb22 => ?_) (fun hb22 => ?_)
    · refine J_rs ?_
      refine R_p Wide.wide (P_assign rfl) rfl rfl ?_
      refine JL_nil ?_
      refine J_ret ?_
      refine Fin.ret _ (.inl rfl) rfl (Reads.one rfl (RV.tmp rfl)) fun _ _ => ?_
      have hil : i = l.length := by have := of_decide_eq_false hb8; omega
      rw [hil, List.take_length] at hb22
      simp_all [greatL]
    · refine J_skip ?_
      show J _ _ _ _ _ _
      refine J_rs ?_
      refine R_p Wide.wide (P_assign rfl) rfl rfl ?_
      refine JL_nil ?_
      refine J_ret ?_
      refine Fin.ret _ (.inl rfl) rfl (Reads.one rfl (RV.tmp rfl)) fun _ _ => ?_
      have hil : i = l.length := by have := of_decide_eq_false hb8; omega
      rw [hil, List.take_length] at hb22
      simp_all [greatL]

set_option maxRecDepth 100000 in
theorem c8 {v v' : Value} {l : List D} (hl : l.length ≤ 1048576) : FnC Try.prog 8 [v, v'].toArray (fun h => RdD h v l ∧ RdD h v' l) (fun u _ => u = .bool true) := by
  refine fn_of_J Try.func8 rfl inferInstance 26 Try.ntmps8 (Nat.le_of_ble_eq_true rfl) fun W0 h0 => ?_
  refine J_rs ?_
  refine R_p Wide.wide (P_assign rfl) rfl rfl ?_
  refine JL_nil ?_
  refine J_seq ?_
  refine J_rs ?_
  refine R_p Wide.wide (P_move rfl) rfl rfl ?_
  refine R_lenf Wide.wide rfl (fun h hf => hf.1) Try.underlying22 rfl ?_
  refine R_p Wide.wide (P_move rfl) rfl rfl ?_
  refine R_lenf Wide.wide rfl (fun h hf => hf.2) Try.underlying22 rfl ?_
  refine R_p Wide.wide (P_nei rfl rfl) rfl rfl ?_
  refine JL_nil ?_
  refine J_iff (congrArg some (congrArg Value.bool (decide_eq_false (by simp)))) ?_
  refine J_skip ?_
  show J _ _ _ _ _ _
  refine J_seq ?_
  refine J_rs ?_
  refine R_p Wide.wide (P_assign rfl) rfl rfl ?_
  refine JL_nil ?_
  refine J_block ?_
  refine J_round (ι := {i : Nat // i ≤ l.length}) (fun i => ⟨[(0, v), (1, v'), (5, .int .i64 (i.1 : Nat))], [], fun h => RdD h v l ∧ RdD h v' l, inferInstance, []⟩) (fun i => l.length - i.1) ⟨0, Nat.zero_le _⟩ (Le.mk ⟨rfl, rfl, rfl, trivial⟩ rfl rfl fun _ h => h) ?_
  rintro ⟨i, hi⟩
  dsimp only at hi ⊢
  refine J_seq ?_
  refine J_rs ?_
  refine R_p Wide.wide (P_move rfl) rfl rfl ?_
  refine R_p Wide.wide (P_move rfl) rfl rfl ?_
  refine R_lenf Wide.wide rfl (fun h hf => hf.1) Try.underlying22 rfl ?_
  refine R_p Wide.wide (P_lss rfl rfl) rfl rfl ?_
  refine JL_nil ?_
  refine J_ifs rfl (fun hb14 => ?_) (fun hb14 => ?_)
  · refine J_skip ?_
    show J _ _ _ _ _ _
    refine J_seq ?_
    refine J_block ?_
    have hlt : i < l.length := by have := of_decide_eq_true hb14; omega
    have hget : l[i]? = some l[i] := List.getElem?_eq_getElem _
    generalize l[i] = d at hget
    refine J_rdform (v := v) (n := l.length) (xs := l.flatMap D.cells) (fun h hf => hf.1) (fun _ h0 _ => by omega) (fun b0 o0 c0 e0 hc0 => ?_)
    subst e0
    refine J_rdform (v := v') (n := l.length) (xs := l.flatMap D.cells) (fun h hf => hf.1.2) (fun _ h0 _ => by omega) (fun b1 o1 c1 e1 hc1 => ?_)
    subst e1
    refine J_ds Wide.wide 9 [] rfl (by kernel_rfl) ?_
    refine G_p (P_move rfl) rfl rfl ?_
    refine G_p (P_move rfl) rfl rfl ?_
    refine G_p (P_indexAddr (i := i) rfl rfl Try.underlying22 Try.type43 rfl hlt) rfl rfl ?_
    refine G_loads (cs := d.cells) rfl _ Try.underlying43 rfl Try.type43 rfl rfl rfl (fun h hf hg => RdC.elem hf.1.2 D.cells_length hget) ?_
    refine G_p (P_move rfl) rfl rfl ?_
    refine G_p (P_move rfl) rfl rfl ?_
    refine G_p (P_indexAddr (i := i) rfl rfl Try.underlying22 Try.type43 rfl hlt) rfl rfl ?_
    refine G_loads (cs := d.cells) rfl _ Try.underlying43 rfl Try.type43 rfl rfl rfl (fun h hf hg => RdC.elem hf.2 D.cells_length hget) ?_
    refine G_p (P_ned rfl rfl) rfl rfl ?_
    refine G_nil0 ?_
    refine JL_nil ?_
    refine J_iff rfl ?_
    refine J_skip ?_
    show J _ _ _ _ _ _
    refine J_region ?_
    refine R_p Wide.wide (P_move rfl) rfl rfl ?_
    refine R_p Wide.wide (P_add rfl rfl ((i + 1 : Nat) : Int) (w64x (by omega) (by omega))) rfl rfl ?_
    refine R_p Wide.wide (P_assign rfl) rfl rfl ?_
    refine JL_nil ?_
    exact ⟨⟨i + 1, hlt⟩, by simp only; omega, Le.mk ⟨rfl, rfl, rfl, trivial⟩ rfl rfl fun _ hf => hf.1.1⟩
  · refine J_exit ?_
    show J _ _ _ _ _ _
    refine J_rs ?_
    refine R_p Wide.wide (P_assign rfl) rfl rfl ?_
    refine JL_nil ?_
    refine J_ret ?_
    refine Fin.ret _ (.inl rfl) rfl (Reads.one rfl (RV.tmp rfl)) fun _ _ => rfl

end Go.Proofs.Ytgheodbcgddjlaa
