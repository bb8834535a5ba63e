/- Walks: the chapter's example. -/
import Derived.Test.YtgheodbcgddjlaaS10
set_option linter.unusedVariables false
set_option linter.unusedSimpArgs false
namespace Go.Ix
open Go.Hl
def fewT : Nat → S := addL (fun _ => .nil) fewL
def few1 : List D := [fewL.getD 0 D0, fewL.getD 1 D0]
def few2 : List D := [fewL.getD 0 D0]
set_option maxRecDepth 100000 in
theorem few_ok : fewL.all okAdd = true := by kernel_rfl
set_option maxRecDepth 100000 in
theorem few_a : (beginS 3 (keyL [pn 10, pv ⟨1, 1, []⟩]) (fewT 3)).filter (inView 0 0) = few1 := by kernel_rfl
set_option maxRecDepth 100000 in
theorem few_b : (beginS 1 (keyL [pn 20]) (fewT 1)).filter (inView 1 0) = few2 := by kernel_rfl
theorem few_fine : Fine fewT := (addL_spec fewL Fine.nil).1
theorem few_cnt (o : Nat) : (fewT o).cnt ≤ 3 := (addL_wf fewL (ss := fun _ => .nil) (o := o) trivial).2
theorem few_key (o : Nat) : ∀ x ∈ (fewT o).toL, x.length ≤ 1000000 := fun x hx => Nat.le_trans (addL_keys (ss := fun _ => .nil) (fun _ _ h => by cases h) Fine.nil fewL o x hx) (by omega)
theorem few_s : ∀ d ∈ fewL, d.v.s.length ≤ 1000000 := fun d hd => by
  simp only [fewL, List.mem_cons, List.not_mem_nil, or_false] at hd
  rcases hd with rfl | rfl | rfl <;> exact Nat.zero_le _
theorem few_form {h : Hp} {v : Value} (H : RdD h v fewL) : ∃ q : Nat × Nat × Nat, v = .slice (some ⟨q.1, q.2.1, none⟩) 3 q.2.2 ∧ RdC h q.1 q.2.1 (fewL.flatMap D.cells) := by
  rcases H with ⟨_, h1, _⟩ | ⟨b, off, cap, rfl, _, h2⟩
  · cases h1
  · exact ⟨(b, off, cap), rfl, h2⟩
theorem kinds_a : ∀ (i : Nat) (q : Pt), [pn 10, pv ⟨1, 1, []⟩][i]? = some q → (partsL 3 D0)[i]?.map Pt.b = some q.b
  | 0, q, h => by cases h; rfl
  | 1, q, h => by cases h; rfl
  | i + 2, q, h => by simp at h
theorem kinds_b : ∀ (i : Nat) (q : Pt), [pn 20][i]? = some q → (partsL 1 D0)[i]?.map Pt.b = some q.b
  | 0, q, h => by cases h; rfl
  | i + 1, q, h => by simp at h
end Go.Ix
namespace Go.Proofs.Ytgheodbcgddjlaa
open Go.RowKit Go.Grow Go.Hl Go.Ix

set_option maxRecDepth 100000 in
theorem c4  : FnC Try.prog 4 [].toArray (fun _ => True) (fun u _ => u = .bool true) := by
  refine fn_of_J Try.func4 rfl inferInstance 79 Try.ntmps4 (Nat.le_of_ble_eq_true rfl) fun W0 h0 => ?_
  refine J_rs ?_
  refine R_p Wide.wide (P_assign rfl) rfl rfl ?_
  refine JL_nil ?_
  refine J_rs ?_
  refine R_p Wide.wide (P_assign rfl) rfl rfl ?_
  refine JL_nil ?_
  refine J_rs ?_
  refine R_p Wide.wide (P_move rfl) rfl rfl ?_
  refine R_fn Wide.wide Try.call10 rfl c10 (fun h hf => trivial) (fun _ => inferInstance) rfl (fun v10 => ?_)
  refine R_fn Wide.wide Try.call6 rfl (c6 (ts := fun _ => .nil) (l := fewL) (fun _ => trivial) (fun _ => Nat.zero_le _) (by decide) few_s) (fun h hf => ⟨.inl ⟨rfl, fun _ => rfl⟩, hf.2⟩) (fun _ => inferInstance) rfl (fun v11 => ?_)
  refine JL_ex (fun (q : Value × (Nat → T)) h => v11 = .tuple #[q.1, .int .i64 0] ∧ Ixp h q.1 q.2 ∧ ∀ o, (q.2 o).sh = fewT o) (fun _ => inferInstance) (fun h hf => by
    rcases hf.2 with ⟨h1, _⟩ | ⟨_, v, ts', h1, h2, h3⟩
    · rw [few_ok] at h1; cases h1
    · exact ⟨(v, ts'), h1, h2, h3⟩) ?_
  rintro ⟨w11, ts⟩
  refine JL_fact (fun h hf => hf.2.1) fun e11 => ?_
  subst e11
  refine JL_fact (fun h hf => hf.2.2.2) fun hsh0 => ?_
  have hsh : ∀ o, (ts o).sh = fewT o := hsh0
  clear hsh0
  refine R_p Wide.wide (P_move rfl) rfl rfl ?_
  refine R_p Wide.wide (P_extract rfl rfl) rfl rfl ?_
  refine R_p Wide.wide (P_extract rfl rfl) rfl rfl ?_
  refine R_p Wide.wide (P_assign rfl) rfl rfl ?_
  refine R_p Wide.wide (P_assign rfl) rfl rfl ?_
  refine JL_nil ?_
  refine J_rs ?_
  refine R_p Wide.wide (P_move rfl) rfl rfl ?_
  refine R_p Wide.wide (P_build [1, 1, 3] Try.underlying38 Try.type38 rfl rfl (ivs := [(1, .int .i64 10)]) (cs := (pn 10).cells) rfl rfl) rfl rfl ?_
  refine R_p Wide.wide (P_build [1, 1, 1] Try.underlying36 Try.type36 rfl rfl (ivs := [(0, .int .i64 1), (1, .int .i64 1)]) (cs := V.cells ⟨1, 1, []⟩) rfl rfl) rfl rfl ?_
  refine R_p Wide.wide (P_build [1, 1, 3] Try.underlying38 Try.type38 rfl rfl (ivs := [(0, .bool true), (2, .agg (V.cells ⟨1, 1, []⟩).toArray)]) (cs := (pv ⟨1, 1, []⟩).cells) rfl rfl) rfl rfl ?_
  refine R_bslice Wide.wide Try.underlying39 Try.type38 rfl (ivs := [(0, .agg (pn 10).cells.toArray), (1, .agg (pv ⟨1, 1, []⟩).cells.toArray)]) (cs := [pn 10, pv ⟨1, 1, []⟩].flatMap Pt.cells) rfl rfl rfl rfl (fun b19 => ?_)
  refine JL_pubbox (b := b19) (t := 38) (cs := [pn 10, pv ⟨1, 1, []⟩].flatMap Pt.cells) [] [] rfl ?_
  refine R_p Wide.wide (P_build [1, 1, 1, 1, 1] Try.underlying41 Try.type41 rfl rfl (ivs := []) (cs := [.int .i64 0, .int .i64 0, .int .i64 0, .bool false, .bool false]) rfl rfl) rfl rfl ?_
  refine R_fn Wide.wide Try.call11 rfl (c11 (x := 3) (a := 0) (s := 0) (ts := ts) (ps := [pn 10, pv ⟨1, 1, []⟩]) rfl (Nat.le_of_ble_eq_true rfl) (Nat.le_of_ble_eq_true rfl) kinds_a rfl (fun p hp => by simp only [List.mem_cons, List.not_mem_nil, or_false] at hp; rcases hp with rfl | rfl <;> exact Nat.zero_le _) (by omega) (by omega) (by have h1 := hsh 3; have h2 := few_cnt 3; show (ts 3).sh.cnt ≤ _; rw [h1]; omega) (fromT_key (by show ∀ x ∈ (ts 3).sh.toL, _; rw [hsh 3]; exact few_key 3))) (fun h hf => ⟨hf.1.2.2.1, .inr ⟨b19, 0, _, rfl, Nat.le_refl _, RdC.of_cells hf.2⟩⟩) (fun _ => inferInstance) rfl (fun v21 => ?_)
  refine JL_ex (fun (w : Value) h => v21 = .tuple #[w, .int .i64 0] ∧ RdD h w few1) (fun _ => inferInstance) (fun h hf => by
    obtain ⟨w, h1, h2⟩ := hf.2
    rw [beginL_S] at h2
    have h3 : (ts (3 : Int).toNat).sh = fewT 3 := hsh 3
    rw [h3, few_a] at h2
    exact ⟨w, h1, h2⟩) fun w21 => ?_
  refine JL_fact (fun h hf => hf.2.1) fun e21 => ?_
  subst e21
  refine R_p Wide.wide (P_move rfl) rfl rfl ?_
  refine R_p Wide.wide (P_extract rfl rfl) rfl rfl ?_
  refine R_p Wide.wide (P_extract rfl rfl) rfl rfl ?_
  refine R_p Wide.wide (P_assign rfl) rfl rfl ?_
  refine R_p Wide.wide (P_assign rfl) rfl rfl ?_
  refine JL_nil ?_
  refine J_rs ?_
  refine R_p Wide.wide (P_move rfl) rfl rfl ?_
  refine R_p Wide.wide (P_build [1, 1, 3] Try.underlying38 Try.type38 rfl rfl (ivs := [(1, .int .i64 20)]) (cs := (pn 20).cells) rfl rfl) rfl rfl ?_
  refine R_bslice Wide.wide Try.underlying39 Try.type38 rfl (ivs := [(0, .agg (pn 20).cells.toArray)]) (cs := [pn 20].flatMap Pt.cells) rfl rfl rfl rfl (fun b27 => ?_)
  refine JL_pubbox (b := b27) (t := 38) (cs := [pn 20].flatMap Pt.cells) [] [] rfl ?_
  refine R_p Wide.wide (P_build [1, 1, 1, 1, 1] Try.underlying41 Try.type41 rfl rfl (ivs := [(0, .int .i64 1)]) (cs := [.int .i64 1, .int .i64 0, .int .i64 0, .bool false, .bool false]) rfl rfl) rfl rfl ?_
  refine R_fn Wide.wide Try.call11 rfl (c11 (x := 1) (a := 1) (s := 0) (ts := ts) (ps := [pn 20]) rfl (Nat.le_of_ble_eq_true rfl) (Nat.le_of_ble_eq_true rfl) kinds_b rfl (fun p hp => by simp only [List.mem_cons, List.not_mem_nil, or_false] at hp; rcases hp with rfl | rfl <;> exact Nat.zero_le _) (by omega) (by omega) (by have h1 := hsh 1; have h2 := few_cnt 1; show (ts 1).sh.cnt ≤ _; rw [h1]; omega) (fromT_key (by show ∀ x ∈ (ts 1).sh.toL, _; rw [hsh 1]; exact few_key 1))) (fun h hf => ⟨hf.1.1.1.1.2.2.1, .inr ⟨b27, 0, _, rfl, Nat.le_refl _, RdC.of_cells hf.2⟩⟩) (fun _ => inferInstance) rfl (fun v29 => ?_)
  refine JL_ex (fun (w : Value) h => v29 = .tuple #[w, .int .i64 0] ∧ RdD h w few2) (fun _ => inferInstance) (fun h hf => by
    obtain ⟨w, h1, h2⟩ := hf.2
    rw [beginL_S] at h2
    have h3 : (ts (1 : Int).toNat).sh = fewT 1 := hsh 1
    rw [h3, few_b] at h2
    exact ⟨w, h1, h2⟩) fun w29 => ?_
  refine JL_fact (fun h hf => hf.2.1) fun e29 => ?_
  subst e29
  refine R_p Wide.wide (P_move rfl) rfl rfl ?_
  refine R_p Wide.wide (P_extract rfl rfl) rfl rfl ?_
  refine R_p Wide.wide (P_extract rfl rfl) rfl rfl ?_
  refine R_p Wide.wide (P_assign rfl) rfl rfl ?_
  refine R_p Wide.wide (P_assign rfl) rfl rfl ?_
  refine JL_nil ?_
  refine J_rdform (v := w21) (n := 2) (xs := few1.flatMap D.cells) (fun h hf => hf.1.1.1.2.2) (fun _ h1 _ => by cases h1) (fun bw ow cw ew hcw => ?_)
  subst ew
  refine J_rdform (v := w29) (n := 1) (xs := few2.flatMap D.cells) (fun h hf => hf.1.2.2) (fun _ h1 _ => by cases h1) (fun bx ox cx ex hcx => ?_)
  subst ex
  refine J_ds Wide.wide 47 [(15, fun _ u h => ∃ q : Nat × Nat × Nat, u = .slice (some ⟨q.1, q.2.1, none⟩) 3 q.2.2 ∧ RdC h q.1 q.2.1 (fewL.flatMap D.cells)), (24, fun _ u h => ∃ q : Nat × Nat × Nat, u = .slice (some ⟨q.1, q.2.1, none⟩) 3 q.2.2 ∧ RdC h q.1 q.2.1 (fewL.flatMap D.cells)), (42, fun _ u h => ∃ q : Nat × Nat × Nat, u = .slice (some ⟨q.1, q.2.1, none⟩) 3 q.2.2 ∧ RdC h q.1 q.2.1 (fewL.flatMap D.cells))] rfl (by kernel_rfl) ?_
  refine G_p (P_move rfl) rfl rfl ?_
  refine G_p (P_eqi rfl rfl) rfl rfl ?_
  refine G_p (P_move rfl) rfl rfl ?_
  refine G_say (tg := 34) (v := .bool true) rfl rfl ?_
  refine G_gy rfl rfl ?_
  refine G_p (P_move rfl) rfl rfl ?_
  refine G_gy rfl rfl ?_
  refine G_p (P_eqi rfl rfl) rfl rfl ?_
  refine G_p (P_pickt rfl rfl) rfl rfl ?_
  refine G_p (P_move rfl) rfl rfl ?_
  refine G_say (tg := 38) (v := .bool true) rfl rfl ?_
  refine G_gy rfl rfl ?_
  refine G_p (P_move rfl) rfl rfl ?_
  refine G_gy rfl rfl ?_
  refine G_p (P_len rfl rfl Try.underlying22) rfl rfl ?_
  refine G_gy rfl rfl ?_
  refine G_p (P_eqi rfl rfl) rfl rfl ?_
  refine G_p (P_pickt rfl rfl) rfl rfl ?_
  refine G_p (P_move rfl) rfl rfl ?_
  refine G_say (tg := 43) (v := .bool true) rfl rfl ?_
  refine G_gy rfl rfl ?_
  refine G_p (P_move rfl) rfl rfl ?_
  refine G_gy rfl rfl ?_
  refine G_p (P_indexAddr (i := 0) rfl rfl Try.underlying22 Try.type43 rfl (by omega)) rfl rfl ?_
  refine G_gy rfl rfl ?_
  refine G_loads (cs := (few1.getD 0 D0).cells) rfl _ Try.underlying43 rfl Try.type43 rfl rfl rfl (fun h hf hg => RdC.elem hf.1.2 D.cells_length (L := few1) (i := 0) rfl) ?_
  refine G_gy rfl rfl ?_
  refine G_fn Try.call10 rfl c10 (fun h hf hg => trivial) rfl (fun _ _ z => few_form z) (fun _ => inferInstance) rfl (fun v47 => ?_)
  refine G_ex (fun _ => inferInstance) fun q47 => ?_
  refine G_pure (p := v47 = .slice (some ⟨q47.1, q47.2.1, none⟩) 3 q47.2.2) (fun h z => z.1) fun e47 => ?_
  subst e47
  refine G_gy rfl rfl ?_
  refine G_p (P_indexAddr (i := 0) rfl rfl Try.underlying22 Try.type43 rfl (by omega)) rfl rfl ?_
  refine G_gy rfl rfl ?_
  refine G_loads (cs := (fewL.getD 0 D0).cells) rfl _ Try.underlying43 rfl Try.type43 rfl rfl rfl (fun h hf hg => RdC.elem (hg _ (List.mem_cons_self ..) (by kernel_rfl)).2 D.cells_length (L := fewL) (i := 0) rfl) ?_
  refine G_gy rfl rfl ?_
  refine G_p (P_eqd (d := fewL.getD 0 D0) rfl rfl) rfl rfl ?_
  refine G_p (P_pickt rfl rfl) rfl rfl ?_
  refine G_p (P_move rfl) rfl rfl ?_
  refine G_say (tg := 52) (v := .bool true) rfl rfl ?_
  refine G_gy rfl rfl ?_
  refine G_p (P_move rfl) rfl rfl ?_
  refine G_gy rfl rfl ?_
  refine G_p (P_indexAddr (i := 1) rfl rfl Try.underlying22 Try.type43 rfl (by omega)) rfl rfl ?_
  refine G_gy rfl rfl ?_
  refine G_loads (cs := (few1.getD 1 D0).cells) rfl _ Try.underlying43 rfl Try.type43 rfl rfl rfl (fun h hf hg => RdC.elem hf.1.2 D.cells_length (L := few1) (i := 1) rfl) ?_
  refine G_gy rfl rfl ?_
  refine G_fn Try.call10 rfl c10 (fun h hf hg => trivial) rfl (fun _ _ z => few_form z) (fun _ => inferInstance) rfl (fun v56 => ?_)
  refine G_ex (fun _ => inferInstance) fun q56 => ?_
  refine G_pure (p := v56 = .slice (some ⟨q56.1, q56.2.1, none⟩) 3 q56.2.2) (fun h z => z.1) fun e56 => ?_
  subst e56
  refine G_gy rfl rfl ?_
  refine G_p (P_indexAddr (i := 1) rfl rfl Try.underlying22 Try.type43 rfl (by omega)) rfl rfl ?_
  refine G_gy rfl rfl ?_
  refine G_loads (cs := (fewL.getD 1 D0).cells) rfl _ Try.underlying43 rfl Try.type43 rfl rfl rfl (fun h hf hg => RdC.elem (hg _ (List.mem_cons_self ..) (by kernel_rfl)).2 D.cells_length (L := fewL) (i := 1) rfl) ?_
  refine G_gy rfl rfl ?_
  refine G_p (P_eqd (d := fewL.getD 1 D0) rfl rfl) rfl rfl ?_
  refine G_p (P_pickt rfl rfl) rfl rfl ?_
  refine G_p (P_move rfl) rfl rfl ?_
  refine G_say (tg := 61) (v := .bool true) rfl rfl ?_
  refine G_gy rfl rfl ?_
  refine G_p (P_move rfl) rfl rfl ?_
  refine G_gy rfl rfl ?_
  refine G_p (P_eqi rfl rfl) rfl rfl ?_
  refine G_p (P_pickt rfl rfl) rfl rfl ?_
  refine G_p (P_move rfl) rfl rfl ?_
  refine G_say (tg := 65) (v := .bool true) rfl rfl ?_
  refine G_gy rfl rfl ?_
  refine G_p (P_move rfl) rfl rfl ?_
  refine G_gy rfl rfl ?_
  refine G_p (P_len rfl rfl Try.underlying22) rfl rfl ?_
  refine G_gy rfl rfl ?_
  refine G_p (P_eqi rfl rfl) rfl rfl ?_
  refine G_p (P_pickt rfl rfl) rfl rfl ?_
  refine G_p (P_move rfl) rfl rfl ?_
  refine G_say (tg := 70) (v := .bool true) rfl rfl ?_
  refine G_gy rfl rfl ?_
  refine G_p (P_move rfl) rfl rfl ?_
  refine G_gy rfl rfl ?_
  refine G_p (P_indexAddr (i := 0) rfl rfl Try.underlying22 Try.type43 rfl (by omega)) rfl rfl ?_
  refine G_gy rfl rfl ?_
  refine G_loads (cs := (few2.getD 0 D0).cells) rfl _ Try.underlying43 rfl Try.type43 rfl rfl rfl (fun h hf hg => RdC.elem hf.2 D.cells_length (L := few2) (i := 0) rfl) ?_
  refine G_gy rfl rfl ?_
  refine G_fn Try.call10 rfl c10 (fun h hf hg => trivial) rfl (fun _ _ z => few_form z) (fun _ => inferInstance) rfl (fun v74 => ?_)
  refine G_ex (fun _ => inferInstance) fun q74 => ?_
  refine G_pure (p := v74 = .slice (some ⟨q74.1, q74.2.1, none⟩) 3 q74.2.2) (fun h z => z.1) fun e74 => ?_
  subst e74
  refine G_gy rfl rfl ?_
  refine G_p (P_indexAddr (i := 0) rfl rfl Try.underlying22 Try.type43 rfl (by omega)) rfl rfl ?_
  refine G_gy rfl rfl ?_
  refine G_loads (cs := (fewL.getD 0 D0).cells) rfl _ Try.underlying43 rfl Try.type43 rfl rfl rfl (fun h hf hg => RdC.elem (hg _ (List.mem_cons_self ..) (by kernel_rfl)).2 D.cells_length (L := fewL) (i := 0) rfl) ?_
  refine G_gy rfl rfl ?_
  refine G_p (P_eqd (d := fewL.getD 0 D0) rfl rfl) rfl rfl ?_
  refine G_p (P_pickt rfl rfl) rfl rfl ?_
  refine G_nil0 ?_
  refine R_p Wide.wide (P_assign rfl) rfl rfl ?_
  refine JL_nil ?_
  refine J_ret ?_
  refine Fin.ret _ (.inl rfl) rfl (Reads.one rfl (RV.tmp rfl)) fun _ _ => rfl

end Go.Proofs.Ytgheodbcgddjlaa
