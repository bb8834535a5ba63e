/- Walks: a reader of bytes: take. -/
import Derived.Test.YtgheodbcgddjlaaS4
set_option linter.unusedVariables false
set_option linter.unusedSimpArgs false
namespace Go.Proofs.Ytgheodbcgddjlaa
open Go.RowKit Go.Grow Go.Hl Go.Ix

set_option maxRecDepth 100000 in
theorem c59 {rb n : Nat} {l : List UInt8} {bad : Bool} {v : Value} (hn : 0 < n) (hn2 : n ≤ 1000) : Ct Try.prog 59 [.pointer (some ⟨rb, 0, none⟩), .int .i64 n].toArray [.box rb 110 [v, .bool bad]] (fun h => Bs h v l) (fun u R' h => ∃ v', R' = [.box rb 110 [v', .bool (takeR (l, bad) n).2.2]] ∧ Bs h v' (takeR (l, bad) n).2.1 ∧ Bs h u (takeR (l, bad) n).1) := by
  refine ct_of_JM Try.func59 rfl inferInstance 40 Try.ntmps59 (Nat.le_of_ble_eq_true rfl) fun W0 h0 => ?_
  refine J_rs ?_
  refine R_p Wide.wide (P_assign rfl) rfl rfl ?_
  refine JL_nil ?_
  refine J_seq ?_
  refine J_rs ?_
  refine R_p Wide.wide (P_move rfl) rfl rfl ?_
  refine R_p Wide.wide (P_nil rfl) rfl rfl ?_
  refine R_p Wide.wide (P_fieldAddr rfl Try.underlying110 rfl Try.type4 rfl rfl) rfl rfl ?_
  refine R_loadb Wide.wide 0 rfl rfl _ Try.underlying4 rfl rfl rfl ?_
  refine R_p Wide.wide (P_move rfl) rfl rfl ?_
  refine R_gd Wide.wide rfl rfl rfl (fun hb10 => ?_) (fun hb10 => ?_)
  · refine R_p Wide.wide (P_move rfl) rfl rfl ?_
    refine R_gy rfl rfl ?_
    refine R_p Wide.wide (P_nil rfl) rfl rfl ?_
    refine R_gy rfl rfl ?_
    refine R_p Wide.wide (P_fieldAddr rfl Try.underlying110 rfl Try.type49 rfl rfl) rfl rfl ?_
    refine R_gy rfl rfl ?_
    refine R_loadb Wide.wide 0 rfl rfl _ Try.underlying49 rfl rfl rfl ?_
    refine R_gy rfl rfl ?_
    refine R_lenf Wide.wide rfl (fun h hf => hf) Try.underlying49 rfl ?_
    refine R_gy rfl rfl ?_
    refine R_p Wide.wide (P_move rfl) rfl rfl ?_
    refine R_gy rfl rfl ?_
    refine R_p Wide.wide (P_lss rfl rfl) rfl rfl ?_
    refine R_p Wide.wide (P_pickf rfl rfl) rfl rfl ?_
    refine JL_nil ?_
    refine J_ifs rfl (fun hb18 => ?_) (fun hb18 => ?_)
    · refine J_rs ?_
      refine R_p Wide.wide (P_move rfl) rfl rfl ?_
      refine R_p Wide.wide (P_nil rfl) rfl rfl ?_
      refine R_p Wide.wide (P_fieldAddr rfl Try.underlying110 rfl Try.type4 rfl rfl) rfl rfl ?_
      refine R_store Wide.wide 0 (vs := [.bool true]) rfl rfl rfl rfl Try.type4 rfl (Nat.le_of_ble_eq_true rfl) rfl rfl rfl ?_
      refine JL_nil ?_
      refine J_rs ?_
      refine R_p Wide.wide (P_move rfl) rfl rfl ?_
      refine R_make Wide.wide rfl rfl Try.underlying49 Try.type5 rfl (by show 1 * n ≤ 281474976710656; omega) (by have : maxLen = 9223372036854775807 := rfl; omega) (cs := cb (List.replicate n 0)) (by show (madeCells #[.int .u8 0] (n * 1)).toList = _; rw [Nat.mul_one, toList_madeCells_one]; simp [cb]) rfl (fun b23 => ?_)
      refine R_p Wide.wide (P_assign rfl) rfl rfl ?_
      refine JL_nil ?_
      refine J_pubbox (b := b23) (t := 5) (cs := cb (List.replicate n 0)) [] [.box rb 110 [v, .bool true]] rfl ?_
      refine J_ret ?_
      refine FinM.nil _ (.inl rfl) (R' := [.box rb 110 [v, .bool true]]) [] (List.Perm.refl _) (Reads.one rfl (RV.tmp rfl)) fun h hf => ⟨v, ?_⟩
      have e : takeR (l, bad) n = (List.replicate n 0, (l, true)) := by
        unfold takeR
        rw [if_pos]
        exact .inr (by show l.length < n; have := of_decide_eq_true hb18; omega)
      rw [e]
      refine ⟨rfl, hf.1, ?_⟩
      have h1 := Bs.of (cap := n) (RdC.of_cells hf.2) (by simp)
      simpa using h1
    · refine J_skip ?_
      show J _ _ _ _ _ _
      have hlt : n ≤ l.length := by have := of_decide_eq_false hb18; omega
      refine J_rdform (fun h hf => hf) (fun e hn0 hx => (by exfalso; omega)) (fun bk off cap e hcap => ?_)
      subst e
      refine J_rs ?_
      refine R_p Wide.wide (P_move rfl) rfl rfl ?_
      refine R_p Wide.wide (P_nil rfl) rfl rfl ?_
      refine R_p Wide.wide (P_fieldAddr rfl Try.underlying110 rfl Try.type49 rfl rfl) rfl rfl ?_
      refine R_loadb Wide.wide 0 rfl rfl _ Try.underlying49 rfl rfl rfl ?_
      refine R_p Wide.wide (P_move rfl) rfl rfl ?_
      refine R_p Wide.wide (P_slice (l := 0) (h' := n) rfl Try.underlying49 Try.type5 (.inl ⟨rfl, rfl⟩) (.inr ⟨_, rfl⟩) (Nat.zero_le _) (by omega)) rfl rfl ?_
      refine R_p Wide.wide (P_assign rfl) rfl rfl ?_
      refine JL_nil ?_
      refine J_rs ?_
      refine R_p Wide.wide (P_move rfl) rfl rfl ?_
      refine R_p Wide.wide (P_move rfl) rfl rfl ?_
      refine R_p Wide.wide (P_nil rfl) rfl rfl ?_
      refine R_p Wide.wide (P_fieldAddr rfl Try.underlying110 rfl Try.type49 rfl rfl) rfl rfl ?_
      refine R_loadb Wide.wide 0 rfl rfl _ Try.underlying49 rfl rfl rfl ?_
      refine R_p Wide.wide (P_move rfl) rfl rfl ?_
      refine R_p Wide.wide (P_slice (l := n) (h' := l.length) rfl Try.underlying49 Try.type5 (.inr ⟨_, rfl⟩) (.inl ⟨rfl, rfl⟩) (by omega) (by omega)) rfl rfl ?_
      refine R_p Wide.wide (P_nil rfl) rfl rfl ?_
      refine R_p Wide.wide (P_fieldAddr rfl Try.underlying110 rfl Try.type49 rfl rfl) rfl rfl ?_
      refine R_store Wide.wide 0 (vs := [.slice (some ⟨bk, if cap = n then off else off + n * Try.t5.size, none⟩) (l.length - n) (cap - n)]) rfl rfl rfl rfl Try.type49 rfl (Nat.le_of_ble_eq_true rfl) rfl rfl rfl ?_
      refine JL_nil ?_
      refine J_rs ?_
      refine R_p Wide.wide (P_move rfl) rfl rfl ?_
      refine R_p Wide.wide (P_assign rfl) rfl rfl ?_
      refine JL_nil ?_
      refine J_ret ?_
      have e : takeR (l, bad) n = (l.take n, (l.drop n, false)) := by
        unfold takeR
        rw [if_neg (by simp only [not_or]; exact ⟨by simp_all, by show ¬ l.length < n; omega⟩)]
      refine FinM.nil _ (.inl rfl) (R' := [.box rb 110 [.slice (some ⟨bk, if cap = n then off else off + n * Try.t5.size, none⟩) (l.length - n) (cap - n), .bool bad]]) [] (List.Perm.refl _) (Reads.one rfl (RV.tmp rfl)) fun h hf => ⟨.slice (some ⟨bk, if cap = n then off else off + n * Try.t5.size, none⟩) (l.length - n) (cap - n), ?_⟩
      rw [e]
      refine ⟨by have : bad = false := by simp_all
                 rw [this], .inr ⟨bk, _, cap - n, by rw [List.length_drop], by rw [List.length_drop]; omega, ?_⟩, .inr ⟨bk, off, cap, ?_, by rw [List.length_take]; omega, ?_⟩⟩
      · split
        · have : l.drop n = [] := List.drop_eq_nil_of_le (by omega)
          rw [this]; intro j u hj; simp [cb] at hj
        · have h1 := hf.2.drop n
          have e2 : (cb l).drop n = cb (l.drop n) := by simp [cb, List.map_drop]
          rw [e2] at h1
          have e3 : off + n * Try.t5.size = off + n := by show off + n * 1 = off + n; omega
          rw [e3]; exact h1
      · have e4 : (if cap = 0 then off else off + 0 * Try.t5.size) = off := by split <;> simp
        rw [e4, List.length_take, Nat.min_eq_left hlt]; rfl
      · have e2 : (cb l).take n = cb (l.take n) := by simp [cb, List.map_take]
        rw [← e2]; exact hf.2.take n
  · refine R_gn Wide.wide rfl rfl rfl rfl ?_
    refine R_gn Wide.wide rfl rfl rfl rfl ?_
    refine R_gn Wide.wide rfl rfl rfl rfl ?_
    refine R_gn Wide.wide rfl rfl rfl rfl ?_
    refine R_gn Wide.wide rfl rfl rfl rfl ?_
    refine R_gn Wide.wide rfl rfl rfl rfl ?_
    refine R_p Wide.wide (P_pickt rfl rfl) rfl rfl ?_
    refine JL_nil ?_
    refine J_ift rfl ?_
    refine J_rs ?_
    refine R_p Wide.wide (P_move rfl) rfl rfl ?_
    refine R_p Wide.wide (P_nil rfl) rfl rfl ?_
    refine R_p Wide.wide (P_fieldAddr rfl Try.underlying110 rfl Try.type4 rfl rfl) rfl rfl ?_
    refine R_store Wide.wide 0 (vs := [.bool true]) rfl rfl rfl rfl Try.type4 rfl (Nat.le_of_ble_eq_true rfl) rfl rfl rfl ?_
    refine JL_nil ?_
    refine J_rs ?_
    refine R_p Wide.wide (P_move rfl) rfl rfl ?_
    refine R_make Wide.wide rfl rfl Try.underlying49 Try.type5 rfl (by show 1 * n ≤ 281474976710656; omega) (by have : maxLen = 9223372036854775807 := rfl; omega) (cs := cb (List.replicate n 0)) (by show (madeCells #[.int .u8 0] (n * 1)).toList = _; rw [Nat.mul_one, toList_madeCells_one]; simp [cb]) rfl (fun b23 => ?_)
    refine R_p Wide.wide (P_assign rfl) rfl rfl ?_
    refine JL_nil ?_
    refine J_pubbox (b := b23) (t := 5) (cs := cb (List.replicate n 0)) [] [.box rb 110 [v, .bool true]] rfl ?_
    refine J_ret ?_
    refine FinM.nil _ (.inl rfl) (R' := [.box rb 110 [v, .bool true]]) [] (List.Perm.refl _) (Reads.one rfl (RV.tmp rfl)) fun h hf => ⟨v, ?_⟩
    have e : takeR (l, bad) n = (List.replicate n 0, (l, true)) := by
      unfold takeR
      rw [if_pos]
      exact .inl hb10
    rw [e]
    refine ⟨rfl, hf.1, ?_⟩
    have h1 := Bs.of (cap := n) (RdC.of_cells hf.2) (by simp)
    simpa using h1

end Go.Proofs.Ytgheodbcgddjlaa
