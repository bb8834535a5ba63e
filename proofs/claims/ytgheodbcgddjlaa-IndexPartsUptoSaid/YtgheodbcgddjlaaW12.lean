/- Walks: a reader's numbers. -/
import Derived.Test.YtgheodbcgddjlaaS4
import Derived.Test.YtgheodbcgddjlaaW11
set_option linter.unusedVariables false
set_option linter.unusedSimpArgs false
namespace Go.Proofs.Ytgheodbcgddjlaa
open Go.RowKit Go.Grow Go.Hl Go.Ix

set_option maxRecDepth 100000 in
theorem c58 {rb : Nat} {l : List UInt8} {bad : Bool} {v : Value} : Ct Try.prog 58 [.pointer (some ⟨rb, 0, none⟩)].toArray [.box rb 110 [v, .bool bad]] (fun h => Bs h v l) (fun u R' h => u = .int .i64 (numR (l, bad)).1 ∧ ∃ v', R' = [.box rb 110 [v', .bool (numR (l, bad)).2.2]] ∧ Bs h v' (numR (l, bad)).2.1) := by
  refine ct_of_JM Try.func58 rfl inferInstance 22 Try.ntmps58 (Nat.le_of_ble_eq_true rfl) fun W0 h0 => ?_
  refine J_rs ?_
  refine R_p Wide.wide (P_assign rfl) rfl rfl ?_
  refine JL_nil ?_
  refine J_rs ?_
  refine R_p Wide.wide (P_assign rfl) rfl rfl ?_
  refine JL_nil ?_
  refine J_seq ?_
  refine J_rs ?_
  refine R_p Wide.wide (P_move rfl) rfl rfl ?_
  refine R_call Wide.wide Try.call59 rfl (c59 (n := 8) (l := ((l, bad)).1) (bad := ((l, bad)).2) (v := v) (by decide) (by decide)) (rest := []) (List.Perm.refl _) (fun h hf => hf) (fun _ _ => inferInstance) rfl (fun v7 R7 => ?_)
  refine JL_ex (fun (u : Value) h => R7 = [.box rb 110 [u, .bool (takeR ((l, bad)) 8).2.2]] ∧ Bs h u (takeR ((l, bad)) 8).2.1 ∧ Bs h v7 (takeR ((l, bad)) 8).1) (fun _ => inferInstance) (fun h hf => hf.2) fun u7 => ?_
  refine JL_fact (fun h hf => hf.2.1) fun e7 => ?_
  subst e7
  have ho : (takeR (l, bad) 8).1.length = 8 := takeR_length _ _
  obtain ⟨out, hout⟩ : ∃ out, (takeR (l, bad) 8).1 = out := ⟨_, rfl⟩
  rw [hout] at ho
  refine JL_facts (fun h => Bs h v7 out ∧ Bs h u7 (takeR (l, bad) 8).2.1) (fun h hf => ⟨by rw [← hout]; exact hf.2.2.2, hf.2.2.1⟩) ?_
  refine R_lenf Wide.wide rfl (fun h hf => hf.1) Try.underlying49 rfl ?_
  refine R_p Wide.wide (P_move rfl) rfl rfl ?_
  refine JL_nil ?_
  refine J_block ?_
  refine J_round (ι := {i : Nat // i ≤ out.length}) (fun i => ⟨[(3, .int .u64 ((out.take i.1).foldl accN 0)), (7, v7), (8, .int .i64 out.length), (9, .int .i64 (i.1 : Nat))], [.box rb 110 [u7, .bool (takeR (l, bad) 8).2.2]], fun h => Bs h v7 out ∧ Bs h u7 (takeR (l, bad) 8).2.1, inferInstance, []⟩) (fun i => out.length - i.1) ⟨0, Nat.zero_le _⟩ (Le.mk ⟨rfl, rfl, rfl, rfl, trivial⟩ rfl rfl fun _ h => h) ?_
  rintro ⟨i, hi⟩
  dsimp only
  refine J_rs ?_
  refine R_p Wide.wide (P_lss rfl rfl) rfl rfl ?_
  refine JL_nil ?_
  refine J_seq ?_
  refine J_ifs rfl (fun hb10 => ?_) (fun hb10 => ?_)
  · refine J_skip ?_
    show J _ _ _ _ _ _
    refine J_seq ?_
    refine J_block ?_
    refine J_rs ?_
    have hlt : i < out.length := by have := of_decide_eq_true hb10; omega
    have hget : out[i * 1]? = some out[i] := by rw [Nat.mul_one]; exact List.getElem?_eq_getElem _
    have htk : (out.take (i + 1)).foldl accN 0 = accN ((out.take i).foldl accN 0) out[i] := by rw [take_next hlt, List.foldl_append]; rfl
    generalize out[i] = c at hget htk
    refine R_indexf Wide.wide rfl rfl (fun h hf => hf.1) hlt Try.underlying49 Try.type5 rfl rfl (fun b11 off11 => ?_)
    refine R_load Wide.wide rfl _ Try.underlying5 rfl rfl (fun h hf => hf.2 _ _ (cb_get hget)) ?_
    refine R_p Wide.wide (P_assign rfl) rfl rfl ?_
    refine JL_nil ?_
    refine J_region ?_
    refine R_p Wide.wide (P_move rfl) rfl rfl ?_
    refine R_p Wide.wide (P_shl rfl rfl (by decide) (by show (8 : Int) ≤ 64; decide)) rfl rfl ?_
    refine R_p Wide.wide (P_move rfl) rfl rfl ?_
    refine R_p Wide.wide (P_convi rfl Try.underlying5 Try.underlying116 _ rfl) rfl rfl ?_
    refine R_p Wide.wide (P_or rfl rfl) rfl rfl ?_
    refine R_p Wide.wide (P_assign rfl) rfl rfl ?_
    refine JL_nil ?_
    refine J_region ?_
    refine R_p Wide.wide (P_add rfl rfl ((i + 1 : Nat) : Int) (w64x (by omega) (by omega))) rfl rfl ?_
    refine R_p Wide.wide (P_move rfl) rfl rfl ?_
    refine JL_nil ?_
    exact ⟨⟨i + 1, hlt⟩, by simp only; omega, Le.mk ⟨by rw [htk]; rfl, rfl, rfl, rfl, trivial⟩ rfl rfl fun _ hf => hf.1⟩
  · refine J_exit ?_
    show J _ _ _ _ _ _
    refine J_rs ?_
    have hil : i = out.length := by have := of_decide_eq_false hb10; omega
    refine R_p Wide.wide (P_move rfl) rfl rfl ?_
    refine R_p Wide.wide (P_xor rfl rfl) rfl rfl ?_
    refine R_p Wide.wide (P_convi rfl Try.underlying116 Try.underlying2 _ rfl) rfl rfl ?_
    refine R_p Wide.wide (P_assign rfl) rfl rfl ?_
    refine JL_nil ?_
    refine J_ret ?_
    refine FinM.nil _ (.inl rfl) (R' := [.box rb 110 [u7, .bool (takeR (l, bad) 8).2.2]]) [] (List.Perm.refl _) (Reads.one rfl (RV.tmp rfl)) fun h hf => ⟨?_, u7, rfl, hf.2⟩
    rw [hil, List.take_length, ← hout]
    rfl

end Go.Proofs.Ytgheodbcgddjlaa
