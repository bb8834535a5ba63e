/- Walks: a reader's values. -/
import Derived.Test.YtgheodbcgddjlaaS5
set_option linter.unusedVariables false
set_option linter.unusedSimpArgs false
namespace Go.Proofs.Ytgheodbcgddjlaa
open Go.RowKit Go.Grow Go.Hl Go.Ix

set_option maxRecDepth 100000 in
theorem c57 {rb : Nat} {l : List UInt8} {bad : Bool} {v : Value} (hl : l.length ≤ 1000000) : Ct Try.prog 57 [.pointer (some ⟨rb, 0, none⟩)].toArray [.box rb 110 [v, .bool bad]] (fun h => Bs h v l) (fun u R' h => u = .agg (valR (l, bad)).1.cells.toArray ∧ ∃ v', R' = [.box rb 110 [v', .bool (valR (l, bad)).2.2]] ∧ Bs h v' (valR (l, bad)).2.1) := by
  refine ct_of_JM Try.func57 rfl inferInstance 43 Try.ntmps57 (Nat.le_of_ble_eq_true rfl) fun W0 h0 => ?_
  refine J_rs ?_
  refine R_alloc Wide.wide Try.type36 rfl rfl rfl (fun b2 => ?_)
  refine JL_nil ?_
  refine J_rs ?_
  refine R_p Wide.wide (P_move rfl) rfl rfl ?_
  refine R_call Wide.wide Try.call59 rfl (c59 (n := 1) (l := ((l, bad)).1) (bad := ((l, bad)).2) (v := v) (by decide) (by decide)) (rest := [.box b2 36 V0.cells]) (List.Perm.swap _ _ []) (fun h hf => hf) (fun _ _ => inferInstance) rfl (fun v5 R5 => ?_)
  refine JL_ex (fun (u : Value) h => R5 = [.box rb 110 [u, .bool (takeR ((l, bad)) 1).2.2]] ∧ Bs h u (takeR ((l, bad)) 1).2.1 ∧ Bs h v5 (takeR ((l, bad)) 1).1) (fun _ => inferInstance) (fun h hf => hf.2) fun u5 => ?_
  refine JL_fact (fun h hf => hf.2.1) fun e5 => ?_
  subst e5
  obtain ⟨c5, hc5⟩ := takeR_one ((l, bad))
  refine JL_facts (fun h => Bs h v5 [c5] ∧ Bs h u5 (takeR ((l, bad)) 1).2.1) (fun h hf => ⟨by rw [← hc5]; exact hf.2.2.2, hf.2.2.1⟩) ?_
  refine R_indexf (i := 0) Wide.wide rfl rfl (fun h hf => hf.1) (Nat.zero_lt_succ _) Try.underlying49 Try.type5 rfl rfl (fun b6 off6 => ?_)
  refine R_load Wide.wide rfl _ Try.underlying5 rfl rfl (fun h hf => hf.2 (0 * Try.t5.size) _ rfl) ?_
  refine R_p Wide.wide (P_convi rfl Try.underlying5 Try.underlying3 (c5.toNat : Int) (w64 (by have := c5.toNat_lt; omega))) rfl rfl ?_
  refine R_p Wide.wide (P_build [1, 1, 1] Try.underlying36 Try.type36 rfl rfl (ivs := [(0, .int .i64 (c5.toNat : Int))]) (cs := V.cells ⟨(c5.toNat : Int), 0, []⟩) rfl rfl) rfl rfl ?_
  refine R_alloc Wide.wide Try.type36 rfl rfl rfl (fun b3 => ?_)
  refine R_store Wide.wide 0 (vs := V.cells ⟨(c5.toNat : Int), 0, []⟩) rfl rfl rfl rfl Try.type36 rfl (Nat.le_of_ble_eq_true rfl) rfl (cs' := V.cells ⟨(c5.toNat : Int), 0, []⟩) rfl rfl ?_
  refine JL_facts (fun h => Bs h u5 (takeR (l, bad) 1).2.1) (fun h hf => hf.1.2) ?_
  refine JL_res [.box b3 36 (V.cells ⟨(c5.toNat : Int), 0, []⟩), .box rb 110 [u5, .bool (takeR (l, bad) 1).2.2], .box b2 36 V0.cells] rfl ?_
  refine JL_nil ?_
  refine J_seq ?_
  refine J_rs ?_
  refine R_p Wide.wide (P_fieldAddr rfl Try.underlying36 rfl Try.type3 rfl rfl) rfl rfl ?_
  refine R_loadb Wide.wide 0 rfl rfl _ Try.underlying3 rfl rfl rfl ?_
  refine JL_nil ?_
  refine J_block ?_
  refine J_rs ?_
  refine R_p Wide.wide (P_eqi rfl rfl) rfl rfl ?_
  refine R_p Wide.wide (P_assign rfl) rfl rfl ?_
  refine JL_nil ?_
  refine J_ifs rfl (fun hb15 => ?_) (fun hb15 => ?_)
  · refine J_region ?_
    refine R_p Wide.wide (P_move rfl) rfl rfl ?_
    refine R_call Wide.wide Try.call59 rfl (c59 (n := 1) (l := ((takeR (l, bad) 1).2).1) (bad := ((takeR (l, bad) 1).2).2) (v := u5) (by decide) (by decide)) (rest := [.box b3 36 (V.cells ⟨(c5.toNat : Int), 0, []⟩), .box b2 36 V0.cells]) (List.Perm.swap _ _ _) (fun h hf => hf) (fun _ _ => inferInstance) rfl (fun v18 R18 => ?_)
    refine JL_ex (fun (u : Value) h => R18 = [.box rb 110 [u, .bool (takeR ((takeR (l, bad) 1).2) 1).2.2]] ∧ Bs h u (takeR ((takeR (l, bad) 1).2) 1).2.1 ∧ Bs h v18 (takeR ((takeR (l, bad) 1).2) 1).1) (fun _ => inferInstance) (fun h hf => hf.2) fun u18 => ?_
    refine JL_fact (fun h hf => hf.2.1) fun e18 => ?_
    subst e18
    obtain ⟨c18, hc18⟩ := takeR_one ((takeR (l, bad) 1).2)
    refine JL_facts (fun h => Bs h v18 [c18] ∧ Bs h u18 (takeR ((takeR (l, bad) 1).2) 1).2.1) (fun h hf => ⟨by rw [← hc18]; exact hf.2.2.2, hf.2.2.1⟩) ?_
    refine R_indexf (i := 0) Wide.wide rfl rfl (fun h hf => hf.1) (Nat.zero_lt_succ _) Try.underlying49 Try.type5 rfl rfl (fun b19 off19 => ?_)
    refine R_load Wide.wide rfl _ Try.underlying5 rfl rfl (fun h hf => hf.2 (0 * Try.t5.size) _ rfl) ?_
    refine R_p Wide.wide (P_convi rfl Try.underlying5 Try.underlying2 (c18.toNat : Int) (w64 (by have := c18.toNat_lt; omega))) rfl rfl ?_
    refine R_p Wide.wide (P_fieldAddr rfl Try.underlying36 rfl Try.type2 rfl rfl) rfl rfl ?_
    refine R_store Wide.wide 1 (vs := [.int .i64 (c18.toNat : Int)]) rfl rfl rfl rfl Try.type2 rfl (Nat.le_of_ble_eq_true rfl) rfl (cs' := V.cells ⟨(c5.toNat : Int), (c18.toNat : Int), []⟩) rfl rfl ?_
    refine JL_facts (fun h => Bs h u18 (takeR (takeR (l, bad) 1).2 1).2.1) (fun h hf => hf.1.2) ?_
    refine JL_nil ?_
    refine J_rs ?_
    refine R_p Wide.wide (P_move rfl) rfl rfl ?_
    refine R_p Wide.wide (P_move rfl) rfl rfl ?_
    refine R_p Wide.wide (P_nil rfl) rfl rfl ?_
    refine R_p Wide.wide (P_fieldAddr rfl Try.underlying110 rfl Try.type4 rfl rfl) rfl rfl ?_
    refine R_loadb Wide.wide 0 rfl rfl _ Try.underlying4 rfl rfl rfl ?_
    refine R_p Wide.wide (P_move rfl) rfl rfl ?_
    refine R_gd Wide.wide rfl rfl rfl (fun hb35 => ?_) (fun hb35 => ?_)
    · refine R_loadbs Wide.wide 1 (vs := V.cells ⟨(c5.toNat : Int), (c18.toNat : Int), []⟩) rfl rfl _ Try.underlying36 rfl Try.type36 rfl rfl rfl ?_
      refine R_gy rfl rfl ?_
      refine R_fv Wide.wide Try.call35 rfl (c35 (v := ⟨(c5.toNat : Int), (c18.toNat : Int), []⟩) (Nat.zero_le _)) (fun h hf => trivial) rfl ?_
      refine R_gy rfl rfl ?_
      refine R_p Wide.wide (P_nei rfl rfl) rfl rfl ?_
      refine R_p Wide.wide (P_pickf rfl rfl) rfl rfl ?_
      refine R_p Wide.wide (P_nil rfl) rfl rfl ?_
      refine R_p Wide.wide (P_fieldAddr rfl Try.underlying110 rfl Try.type4 rfl rfl) rfl rfl ?_
      refine R_store Wide.wide 0 (vs := [.bool (decide ((if mayV ⟨(c5.toNat : Int), (c18.toNat : Int), []⟩ then (0 : Int) else 10) ≠ 0))]) rfl rfl rfl rfl Try.type4 rfl (Nat.le_of_ble_eq_true rfl) rfl rfl rfl ?_
      refine JL_nil ?_
      refine J_rs ?_
      refine R_loadbs Wide.wide 1 (vs := V.cells ⟨(c5.toNat : Int), (c18.toNat : Int), []⟩) rfl rfl _ Try.underlying36 rfl Try.type36 rfl rfl rfl ?_
      refine R_store Wide.wide 2 rfl rfl rfl rfl Try.type36 rfl (Nat.le_of_ble_eq_true rfl) rfl rfl rfl ?_
      refine JL_nil ?_
      refine J_ret ?_
      have hv0 : val0 (l, bad) = (⟨(c5.toNat : Int), (c18.toNat : Int), []⟩, (takeR (takeR (l, bad) 1).2 1).2) := by
        simp only [val0, hc5, List.headD_cons]
        rw [if_pos (of_decide_eq_true hb15)]; simp only [hc18, List.headD_cons]
      have hbb : (valR (l, bad)).2.2 = (decide ((if mayV ⟨(c5.toNat : Int), (c18.toNat : Int), []⟩ then (0 : Int) else 10) ≠ 0)) := by
        simp only [valR, hv0]
        simp only [show (takeR (takeR (l, bad) 1).2 1).2.2 = false by simpa using hb35, Bool.false_or]; by_cases hm : mayV ⟨(c5.toNat : Int), (c18.toNat : Int), []⟩ = true <;> simp [hm]
      refine FinM.nil _ (.inl rfl) (R' := [.box rb 110 [u18, .bool (decide ((if mayV ⟨(c5.toNat : Int), (c18.toNat : Int), []⟩ then (0 : Int) else 10) ≠ 0))]]) [.box b3 36 (V.cells ⟨(c5.toNat : Int), (c18.toNat : Int), []⟩), .box b2 36 (V.cells ⟨(c5.toNat : Int), (c18.toNat : Int), []⟩)] (List.Perm.refl _) (Reads.one rfl (RV.cell 2 (t := 36) (cs := V.cells ⟨(c5.toNat : Int), (c18.toNat : Int), []⟩) _ rfl rfl Try.underlying36 rfl Try.type36 rfl)) fun h hf => ⟨by simp only [valR, hv0], u18, by rw [hbb], ?_⟩
      simp only [valR, hv0]
      exact hf
    · refine R_gn Wide.wide rfl rfl rfl rfl ?_
      refine R_gn Wide.wide rfl rfl rfl rfl ?_
      refine R_p Wide.wide (P_pickt rfl rfl) rfl rfl ?_
      refine R_p Wide.wide (P_nil rfl) rfl rfl ?_
      refine R_p Wide.wide (P_fieldAddr rfl Try.underlying110 rfl Try.type4 rfl rfl) rfl rfl ?_
      refine R_store Wide.wide 0 (vs := [.bool (true)]) rfl rfl rfl rfl Try.type4 rfl (Nat.le_of_ble_eq_true rfl) rfl rfl rfl ?_
      refine JL_nil ?_
      refine J_rs ?_
      refine R_loadbs Wide.wide 1 (vs := V.cells ⟨(c5.toNat : Int), (c18.toNat : Int), []⟩) rfl rfl _ Try.underlying36 rfl Try.type36 rfl rfl rfl ?_
      refine R_store Wide.wide 2 rfl rfl rfl rfl Try.type36 rfl (Nat.le_of_ble_eq_true rfl) rfl rfl rfl ?_
      refine JL_nil ?_
      refine J_ret ?_
      have hv0 : val0 (l, bad) = (⟨(c5.toNat : Int), (c18.toNat : Int), []⟩, (takeR (takeR (l, bad) 1).2 1).2) := by
        simp only [val0, hc5, List.headD_cons]
        rw [if_pos (of_decide_eq_true hb15)]; simp only [hc18, List.headD_cons]
      have hbb : (valR (l, bad)).2.2 = (true) := by
        simp only [valR, hv0]
        simp [hb35]
      refine FinM.nil _ (.inl rfl) (R' := [.box rb 110 [u18, .bool (true)]]) [.box b3 36 (V.cells ⟨(c5.toNat : Int), (c18.toNat : Int), []⟩), .box b2 36 (V.cells ⟨(c5.toNat : Int), (c18.toNat : Int), []⟩)] (List.Perm.refl _) (Reads.one rfl (RV.cell 2 (t := 36) (cs := V.cells ⟨(c5.toNat : Int), (c18.toNat : Int), []⟩) _ rfl rfl Try.underlying36 rfl Try.type36 rfl)) fun h hf => ⟨by simp only [valR, hv0], u18, by rw [hbb], ?_⟩
      simp only [valR, hv0]
      exact hf
  · refine J_seq ?_
    refine J_rs ?_
    refine R_p Wide.wide (P_eqi rfl rfl) rfl rfl ?_
    refine R_p Wide.wide (P_assign rfl) rfl rfl ?_
    refine JL_nil ?_
    refine J_ifs rfl (fun hb23 => ?_) (fun hb23 => ?_)
    · refine J_skip ?_
      show J _ _ _ _ _ _
      refine J_ift rfl ?_
      refine J_region ?_
      refine R_p Wide.wide (P_move rfl) rfl rfl ?_
      refine R_call Wide.wide Try.call60 rfl (c60 (l := (takeR (l, bad) 1).2.1) (bad := (takeR (l, bad) 1).2.2) (v := u5) (by have := takeR_le (l, bad) 1; simp only at this; omega)) (rest := [.box b3 36 (V.cells ⟨(c5.toNat : Int), 0, []⟩), .box b2 36 V0.cells]) (List.Perm.swap _ _ _) (fun h hf => hf) (fun _ _ => inferInstance) rfl (fun v28 R28 => ?_)
      refine JL_fact (fun h hf => hf.2.1) fun e28a => ?_
      subst e28a
      refine JL_ex (fun (u : Value) h => R28 = [.box rb 110 [u, .bool (txt (takeR (l, bad) 1).2).2.2]] ∧ Bs h u (txt (takeR (l, bad) 1).2).2.1) (fun _ => inferInstance) (fun h hf => hf.2.2) fun u28 => ?_
      refine JL_fact (fun h hf => hf.2.1) fun e28 => ?_
      subst e28
      refine JL_facts (fun h => Bs h u28 (txt (takeR (l, bad) 1).2).2.1) (fun h hf => hf.2.2) ?_
      refine R_p Wide.wide (P_fieldAddr rfl Try.underlying36 rfl Try.type9 rfl rfl) rfl rfl ?_
      refine R_store Wide.wide 1 (vs := [.string (bs (txt (takeR (l, bad) 1).2).1)]) rfl rfl rfl rfl Try.type9 rfl (Nat.le_of_ble_eq_true rfl) rfl (cs' := V.cells ⟨(c5.toNat : Int), 0, (txt (takeR (l, bad) 1).2).1⟩) rfl rfl ?_
      refine JL_nil ?_
      refine J_rs ?_
      refine R_p Wide.wide (P_move rfl) rfl rfl ?_
      refine R_p Wide.wide (P_move rfl) rfl rfl ?_
      refine R_p Wide.wide (P_nil rfl) rfl rfl ?_
      refine R_p Wide.wide (P_fieldAddr rfl Try.underlying110 rfl Try.type4 rfl rfl) rfl rfl ?_
      refine R_loadb Wide.wide 0 rfl rfl _ Try.underlying4 rfl rfl rfl ?_
      refine R_p Wide.wide (P_move rfl) rfl rfl ?_
      refine R_gd Wide.wide rfl rfl rfl (fun hb35 => ?_) (fun hb35 => ?_)
      · refine R_loadbs Wide.wide 1 (vs := V.cells ⟨(c5.toNat : Int), 0, (txt (takeR (l, bad) 1).2).1⟩) rfl rfl _ Try.underlying36 rfl Try.type36 rfl rfl rfl ?_
        refine R_gy rfl rfl ?_
        refine R_fv Wide.wide Try.call35 rfl (c35 (v := ⟨(c5.toNat : Int), 0, (txt (takeR (l, bad) 1).2).1⟩) (by have h1 := txt_length (takeR (l, bad) 1).2; have h2 := takeR_le (l, bad) 1; simp only at h2; show (txt (takeR (l, bad) 1).2).1.length ≤ 1000000; omega)) (fun h hf => trivial) rfl ?_
        refine R_gy rfl rfl ?_
        refine R_p Wide.wide (P_nei rfl rfl) rfl rfl ?_
        refine R_p Wide.wide (P_pickf rfl rfl) rfl rfl ?_
        refine R_p Wide.wide (P_nil rfl) rfl rfl ?_
        refine R_p Wide.wide (P_fieldAddr rfl Try.underlying110 rfl Try.type4 rfl rfl) rfl rfl ?_
        refine R_store Wide.wide 0 (vs := [.bool (decide ((if mayV ⟨(c5.toNat : Int), 0, (txt (takeR (l, bad) 1).2).1⟩ then (0 : Int) else 10) ≠ 0))]) rfl rfl rfl rfl Try.type4 rfl (Nat.le_of_ble_eq_true rfl) rfl rfl rfl ?_
        refine JL_nil ?_
        refine J_rs ?_
        refine R_loadbs Wide.wide 1 (vs := V.cells ⟨(c5.toNat : Int), 0, (txt (takeR (l, bad) 1).2).1⟩) rfl rfl _ Try.underlying36 rfl Try.type36 rfl rfl rfl ?_
        refine R_store Wide.wide 2 rfl rfl rfl rfl Try.type36 rfl (Nat.le_of_ble_eq_true rfl) rfl rfl rfl ?_
        refine JL_nil ?_
        refine J_ret ?_
        have hv0 : val0 (l, bad) = (⟨(c5.toNat : Int), 0, (txt (takeR (l, bad) 1).2).1⟩, (txt (takeR (l, bad) 1).2).2) := by
          simp only [val0, hc5, List.headD_cons]
          rw [if_neg (of_decide_eq_false hb15), if_pos (by simp_all)]
        have hbb : (valR (l, bad)).2.2 = (decide ((if mayV ⟨(c5.toNat : Int), 0, (txt (takeR (l, bad) 1).2).1⟩ then (0 : Int) else 10) ≠ 0)) := by
          simp only [valR, hv0]
          simp only [show (txt (takeR (l, bad) 1).2).2.2 = false by simpa using hb35, Bool.false_or]; by_cases hm : mayV ⟨(c5.toNat : Int), 0, (txt (takeR (l, bad) 1).2).1⟩ = true <;> simp [hm]
        refine FinM.nil _ (.inl rfl) (R' := [.box rb 110 [u28, .bool (decide ((if mayV ⟨(c5.toNat : Int), 0, (txt (takeR (l, bad) 1).2).1⟩ then (0 : Int) else 10) ≠ 0))]]) [.box b3 36 (V.cells ⟨(c5.toNat : Int), 0, (txt (takeR (l, bad) 1).2).1⟩), .box b2 36 (V.cells ⟨(c5.toNat : Int), 0, (txt (takeR (l, bad) 1).2).1⟩)] (List.Perm.refl _) (Reads.one rfl (RV.cell 2 (t := 36) (cs := V.cells ⟨(c5.toNat : Int), 0, (txt (takeR (l, bad) 1).2).1⟩) _ rfl rfl Try.underlying36 rfl Try.type36 rfl)) fun h hf => ⟨by simp only [valR, hv0], u28, by rw [hbb], ?_⟩
        simp only [valR, hv0]
        exact hf
      · refine R_gn Wide.wide rfl rfl rfl rfl ?_
        refine R_gn Wide.wide rfl rfl rfl rfl ?_
        refine R_p Wide.wide (P_pickt rfl rfl) rfl rfl ?_
        refine R_p Wide.wide (P_nil rfl) rfl rfl ?_
        refine R_p Wide.wide (P_fieldAddr rfl Try.underlying110 rfl Try.type4 rfl rfl) rfl rfl ?_
        refine R_store Wide.wide 0 (vs := [.bool (true)]) rfl rfl rfl rfl Try.type4 rfl (Nat.le_of_ble_eq_true rfl) rfl rfl rfl ?_
        refine JL_nil ?_
        refine J_rs ?_
        refine R_loadbs Wide.wide 1 (vs := V.cells ⟨(c5.toNat : Int), 0, (txt (takeR (l, bad) 1).2).1⟩) rfl rfl _ Try.underlying36 rfl Try.type36 rfl rfl rfl ?_
        refine R_store Wide.wide 2 rfl rfl rfl rfl Try.type36 rfl (Nat.le_of_ble_eq_true rfl) rfl rfl rfl ?_
        refine JL_nil ?_
        refine J_ret ?_
        have hv0 : val0 (l, bad) = (⟨(c5.toNat : Int), 0, (txt (takeR (l, bad) 1).2).1⟩, (txt (takeR (l, bad) 1).2).2) := by
          simp only [val0, hc5, List.headD_cons]
          rw [if_neg (of_decide_eq_false hb15), if_pos (by simp_all)]
        have hbb : (valR (l, bad)).2.2 = (true) := by
          simp only [valR, hv0]
          simp [hb35]
        refine FinM.nil _ (.inl rfl) (R' := [.box rb 110 [u28, .bool (true)]]) [.box b3 36 (V.cells ⟨(c5.toNat : Int), 0, (txt (takeR (l, bad) 1).2).1⟩), .box b2 36 (V.cells ⟨(c5.toNat : Int), 0, (txt (takeR (l, bad) 1).2).1⟩)] (List.Perm.refl _) (Reads.one rfl (RV.cell 2 (t := 36) (cs := V.cells ⟨(c5.toNat : Int), 0, (txt (takeR (l, bad) 1).2).1⟩) _ rfl rfl Try.underlying36 rfl Try.type36 rfl)) fun h hf => ⟨by simp only [valR, hv0], u28, by rw [hbb], ?_⟩
        simp only [valR, hv0]
        exact hf
    · refine J_rs ?_
      refine R_p Wide.wide (P_eqi rfl rfl) rfl rfl ?_
      refine R_p Wide.wide (P_assign rfl) rfl rfl ?_
      refine JL_nil ?_
      refine J_ifs rfl (fun hb23 => ?_) (fun hb23 => ?_)
      · refine J_skip ?_
        show J _ _ _ _ _ _
        refine J_ift rfl ?_
        refine J_region ?_
        refine R_p Wide.wide (P_move rfl) rfl rfl ?_
        refine R_call Wide.wide Try.call60 rfl (c60 (l := (takeR (l, bad) 1).2.1) (bad := (takeR (l, bad) 1).2.2) (v := u5) (by have := takeR_le (l, bad) 1; simp only at this; omega)) (rest := [.box b3 36 (V.cells ⟨(c5.toNat : Int), 0, []⟩), .box b2 36 V0.cells]) (List.Perm.swap _ _ _) (fun h hf => hf) (fun _ _ => inferInstance) rfl (fun v28 R28 => ?_)
        refine JL_fact (fun h hf => hf.2.1) fun e28a => ?_
        subst e28a
        refine JL_ex (fun (u : Value) h => R28 = [.box rb 110 [u, .bool (txt (takeR (l, bad) 1).2).2.2]] ∧ Bs h u (txt (takeR (l, bad) 1).2).2.1) (fun _ => inferInstance) (fun h hf => hf.2.2) fun u28 => ?_
        refine JL_fact (fun h hf => hf.2.1) fun e28 => ?_
        subst e28
        refine JL_facts (fun h => Bs h u28 (txt (takeR (l, bad) 1).2).2.1) (fun h hf => hf.2.2) ?_
        refine R_p Wide.wide (P_fieldAddr rfl Try.underlying36 rfl Try.type9 rfl rfl) rfl rfl ?_
        refine R_store Wide.wide 1 (vs := [.string (bs (txt (takeR (l, bad) 1).2).1)]) rfl rfl rfl rfl Try.type9 rfl (Nat.le_of_ble_eq_true rfl) rfl (cs' := V.cells ⟨(c5.toNat : Int), 0, (txt (takeR (l, bad) 1).2).1⟩) rfl rfl ?_
        refine JL_nil ?_
        refine J_rs ?_
        refine R_p Wide.wide (P_move rfl) rfl rfl ?_
        refine R_p Wide.wide (P_move rfl) rfl rfl ?_
        refine R_p Wide.wide (P_nil rfl) rfl rfl ?_
        refine R_p Wide.wide (P_fieldAddr rfl Try.underlying110 rfl Try.type4 rfl rfl) rfl rfl ?_
        refine R_loadb Wide.wide 0 rfl rfl _ Try.underlying4 rfl rfl rfl ?_
        refine R_p Wide.wide (P_move rfl) rfl rfl ?_
        refine R_gd Wide.wide rfl rfl rfl (fun hb35 => ?_) (fun hb35 => ?_)
        · refine R_loadbs Wide.wide 1 (vs := V.cells ⟨(c5.toNat : Int), 0, (txt (takeR (l, bad) 1).2).1⟩) rfl rfl _ Try.underlying36 rfl Try.type36 rfl rfl rfl ?_
          refine R_gy rfl rfl ?_
          refine R_fv Wide.wide Try.call35 rfl (c35 (v := ⟨(c5.toNat : Int), 0, (txt (takeR (l, bad) 1).2).1⟩) (by have h1 := txt_length (takeR (l, bad) 1).2; have h2 := takeR_le (l, bad) 1; simp only at h2; show (txt (takeR (l, bad) 1).2).1.length ≤ 1000000; omega)) (fun h hf => trivial) rfl ?_
          refine R_gy rfl rfl ?_
          refine R_p Wide.wide (P_nei rfl rfl) rfl rfl ?_
          refine R_p Wide.wide (P_pickf rfl rfl) rfl rfl ?_
          refine R_p Wide.wide (P_nil rfl) rfl rfl ?_
          refine R_p Wide.wide (P_fieldAddr rfl Try.underlying110 rfl Try.type4 rfl rfl) rfl rfl ?_
          refine R_store Wide.wide 0 (vs := [.bool (decide ((if mayV ⟨(c5.toNat : Int), 0, (txt (takeR (l, bad) 1).2).1⟩ then (0 : Int) else 10) ≠ 0))]) rfl rfl rfl rfl Try.type4 rfl (Nat.le_of_ble_eq_true rfl) rfl rfl rfl ?_
          refine JL_nil ?_
          refine J_rs ?_
          refine R_loadbs Wide.wide 1 (vs := V.cells ⟨(c5.toNat : Int), 0, (txt (takeR (l, bad) 1).2).1⟩) rfl rfl _ Try.underlying36 rfl Try.type36 rfl rfl rfl ?_
          refine R_store Wide.wide 2 rfl rfl rfl rfl Try.type36 rfl (Nat.le_of_ble_eq_true rfl) rfl rfl rfl ?_
          refine JL_nil ?_
          refine J_ret ?_
          have hv0 : val0 (l, bad) = (⟨(c5.toNat : Int), 0, (txt (takeR (l, bad) 1).2).1⟩, (txt (takeR (l, bad) 1).2).2) := by
            simp only [val0, hc5, List.headD_cons]
            rw [if_neg (of_decide_eq_false hb15), if_pos (by simp_all)]
          have hbb : (valR (l, bad)).2.2 = (decide ((if mayV ⟨(c5.toNat : Int), 0, (txt (takeR (l, bad) 1).2).1⟩ then (0 : Int) else 10) ≠ 0)) := by
            simp only [valR, hv0]
            simp only [show (txt (takeR (l, bad) 1).2).2.2 = false by simpa using hb35, Bool.false_or]; by_cases hm : mayV ⟨(c5.toNat : Int), 0, (txt (takeR (l, bad) 1).2).1⟩ = true <;> simp [hm]
          refine FinM.nil _ (.inl rfl) (R' := [.box rb 110 [u28, .bool (decide ((if mayV ⟨(c5.toNat : Int), 0, (txt (takeR (l, bad) 1).2).1⟩ then (0 : Int) else 10) ≠ 0))]]) [.box b3 36 (V.cells ⟨(c5.toNat : Int), 0, (txt (takeR (l, bad) 1).2).1⟩), .box b2 36 (V.cells ⟨(c5.toNat : Int), 0, (txt (takeR (l, bad) 1).2).1⟩)] (List.Perm.refl _) (Reads.one rfl (RV.cell 2 (t := 36) (cs := V.cells ⟨(c5.toNat : Int), 0, (txt (takeR (l, bad) 1).2).1⟩) _ rfl rfl Try.underlying36 rfl Try.type36 rfl)) fun h hf => ⟨by simp only [valR, hv0], u28, by rw [hbb], ?_⟩
          simp only [valR, hv0]
          exact hf
        · refine R_gn Wide.wide rfl rfl rfl rfl ?_
          refine R_gn Wide.wide rfl rfl rfl rfl ?_
          refine R_p Wide.wide (P_pickt rfl rfl) rfl rfl ?_
          refine R_p Wide.wide (P_nil rfl) rfl rfl ?_
          refine R_p Wide.wide (P_fieldAddr rfl Try.underlying110 rfl Try.type4 rfl rfl) rfl rfl ?_
          refine R_store Wide.wide 0 (vs := [.bool (true)]) rfl rfl rfl rfl Try.type4 rfl (Nat.le_of_ble_eq_true rfl) rfl rfl rfl ?_
          refine JL_nil ?_
          refine J_rs ?_
          refine R_loadbs Wide.wide 1 (vs := V.cells ⟨(c5.toNat : Int), 0, (txt (takeR (l, bad) 1).2).1⟩) rfl rfl _ Try.underlying36 rfl Try.type36 rfl rfl rfl ?_
          refine R_store Wide.wide 2 rfl rfl rfl rfl Try.type36 rfl (Nat.le_of_ble_eq_true rfl) rfl rfl rfl ?_
          refine JL_nil ?_
          refine J_ret ?_
          have hv0 : val0 (l, bad) = (⟨(c5.toNat : Int), 0, (txt (takeR (l, bad) 1).2).1⟩, (txt (takeR (l, bad) 1).2).2) := by
            simp only [val0, hc5, List.headD_cons]
            rw [if_neg (of_decide_eq_false hb15), if_pos (by simp_all)]
          have hbb : (valR (l, bad)).2.2 = (true) := by
            simp only [valR, hv0]
            simp [hb35]
          refine FinM.nil _ (.inl rfl) (R' := [.box rb 110 [u28, .bool (true)]]) [.box b3 36 (V.cells ⟨(c5.toNat : Int), 0, (txt (takeR (l, bad) 1).2).1⟩), .box b2 36 (V.cells ⟨(c5.toNat : Int), 0, (txt (takeR (l, bad) 1).2).1⟩)] (List.Perm.refl _) (Reads.one rfl (RV.cell 2 (t := 36) (cs := V.cells ⟨(c5.toNat : Int), 0, (txt (takeR (l, bad) 1).2).1⟩) _ rfl rfl Try.underlying36 rfl Try.type36 rfl)) fun h hf => ⟨by simp only [valR, hv0], u28, by rw [hbb], ?_⟩
          simp only [valR, hv0]
          exact hf
      · refine J_region ?_
        refine R_p Wide.wide (P_eqi rfl rfl) rfl rfl ?_
        refine R_p Wide.wide (P_assign rfl) rfl rfl ?_
        refine JL_nil ?_
        refine J_ifs rfl (fun hb23 => ?_) (fun hb23 => ?_)
        · refine J_region ?_
          refine R_p Wide.wide (P_move rfl) rfl rfl ?_
          refine R_call Wide.wide Try.call60 rfl (c60 (l := (takeR (l, bad) 1).2.1) (bad := (takeR (l, bad) 1).2.2) (v := u5) (by have := takeR_le (l, bad) 1; simp only at this; omega)) (rest := [.box b3 36 (V.cells ⟨(c5.toNat : Int), 0, []⟩), .box b2 36 V0.cells]) (List.Perm.swap _ _ _) (fun h hf => hf) (fun _ _ => inferInstance) rfl (fun v28 R28 => ?_)
          refine JL_fact (fun h hf => hf.2.1) fun e28a => ?_
          subst e28a
          refine JL_ex (fun (u : Value) h => R28 = [.box rb 110 [u, .bool (txt (takeR (l, bad) 1).2).2.2]] ∧ Bs h u (txt (takeR (l, bad) 1).2).2.1) (fun _ => inferInstance) (fun h hf => hf.2.2) fun u28 => ?_
          refine JL_fact (fun h hf => hf.2.1) fun e28 => ?_
          subst e28
          refine JL_facts (fun h => Bs h u28 (txt (takeR (l, bad) 1).2).2.1) (fun h hf => hf.2.2) ?_
          refine R_p Wide.wide (P_fieldAddr rfl Try.underlying36 rfl Try.type9 rfl rfl) rfl rfl ?_
          refine R_store Wide.wide 1 (vs := [.string (bs (txt (takeR (l, bad) 1).2).1)]) rfl rfl rfl rfl Try.type9 rfl (Nat.le_of_ble_eq_true rfl) rfl (cs' := V.cells ⟨(c5.toNat : Int), 0, (txt (takeR (l, bad) 1).2).1⟩) rfl rfl ?_
          refine JL_nil ?_
          refine J_rs ?_
          refine R_p Wide.wide (P_move rfl) rfl rfl ?_
          refine R_p Wide.wide (P_move rfl) rfl rfl ?_
          refine R_p Wide.wide (P_nil rfl) rfl rfl ?_
          refine R_p Wide.wide (P_fieldAddr rfl Try.underlying110 rfl Try.type4 rfl rfl) rfl rfl ?_
          refine R_loadb Wide.wide 0 rfl rfl _ Try.underlying4 rfl rfl rfl ?_
          refine R_p Wide.wide (P_move rfl) rfl rfl ?_
          refine R_gd Wide.wide rfl rfl rfl (fun hb35 => ?_) (fun hb35 => ?_)
          · refine R_loadbs Wide.wide 1 (vs := V.cells ⟨(c5.toNat : Int), 0, (txt (takeR (l, bad) 1).2).1⟩) rfl rfl _ Try.underlying36 rfl Try.type36 rfl rfl rfl ?_
            refine R_gy rfl rfl ?_
            refine R_fv Wide.wide Try.call35 rfl (c35 (v := ⟨(c5.toNat : Int), 0, (txt (takeR (l, bad) 1).2).1⟩) (by have h1 := txt_length (takeR (l, bad) 1).2; have h2 := takeR_le (l, bad) 1; simp only at h2; show (txt (takeR (l, bad) 1).2).1.length ≤ 1000000; omega)) (fun h hf => trivial) rfl ?_
            refine R_gy rfl rfl ?_
            refine R_p Wide.wide (P_nei rfl rfl) rfl rfl ?_
            refine R_p Wide.wide (P_pickf rfl rfl) rfl rfl ?_
            refine R_p Wide.wide (P_nil rfl) rfl rfl ?_
            refine R_p Wide.wide (P_fieldAddr rfl Try.underlying110 rfl Try.type4 rfl rfl) rfl rfl ?_
            refine R_store Wide.wide 0 (vs := [.bool (decide ((if mayV ⟨(c5.toNat : Int), 0, (txt (takeR (l, bad) 1).2).1⟩ then (0 : Int) else 10) ≠ 0))]) rfl rfl rfl rfl Try.type4 rfl (Nat.le_of_ble_eq_true rfl) rfl rfl rfl ?_
            refine JL_nil ?_
            refine J_rs ?_
            refine R_loadbs Wide.wide 1 (vs := V.cells ⟨(c5.toNat : Int), 0, (txt (takeR (l, bad) 1).2).1⟩) rfl rfl _ Try.underlying36 rfl Try.type36 rfl rfl rfl ?_
            refine R_store Wide.wide 2 rfl rfl rfl rfl Try.type36 rfl (Nat.le_of_ble_eq_true rfl) rfl rfl rfl ?_
            refine JL_nil ?_
            refine J_ret ?_
            have hv0 : val0 (l, bad) = (⟨(c5.toNat : Int), 0, (txt (takeR (l, bad) 1).2).1⟩, (txt (takeR (l, bad) 1).2).2) := by
              simp only [val0, hc5, List.headD_cons]
              rw [if_neg (of_decide_eq_false hb15), if_pos (by simp_all)]
            have hbb : (valR (l, bad)).2.2 = (decide ((if mayV ⟨(c5.toNat : Int), 0, (txt (takeR (l, bad) 1).2).1⟩ then (0 : Int) else 10) ≠ 0)) := by
              simp only [valR, hv0]
              simp only [show (txt (takeR (l, bad) 1).2).2.2 = false by simpa using hb35, Bool.false_or]; by_cases hm : mayV ⟨(c5.toNat : Int), 0, (txt (takeR (l, bad) 1).2).1⟩ = true <;> simp [hm]
            refine FinM.nil _ (.inl rfl) (R' := [.box rb 110 [u28, .bool (decide ((if mayV ⟨(c5.toNat : Int), 0, (txt (takeR (l, bad) 1).2).1⟩ then (0 : Int) else 10) ≠ 0))]]) [.box b3 36 (V.cells ⟨(c5.toNat : Int), 0, (txt (takeR (l, bad) 1).2).1⟩), .box b2 36 (V.cells ⟨(c5.toNat : Int), 0, (txt (takeR (l, bad) 1).2).1⟩)] (List.Perm.refl _) (Reads.one rfl (RV.cell 2 (t := 36) (cs := V.cells ⟨(c5.toNat : Int), 0, (txt (takeR (l, bad) 1).2).1⟩) _ rfl rfl Try.underlying36 rfl Try.type36 rfl)) fun h hf => ⟨by simp only [valR, hv0], u28, by rw [hbb], ?_⟩
            simp only [valR, hv0]
            exact hf
          · refine R_gn Wide.wide rfl rfl rfl rfl ?_
            refine R_gn Wide.wide rfl rfl rfl rfl ?_
            refine R_p Wide.wide (P_pickt rfl rfl) rfl rfl ?_
            refine R_p Wide.wide (P_nil rfl) rfl rfl ?_
            refine R_p Wide.wide (P_fieldAddr rfl Try.underlying110 rfl Try.type4 rfl rfl) rfl rfl ?_
            refine R_store Wide.wide 0 (vs := [.bool (true)]) rfl rfl rfl rfl Try.type4 rfl (Nat.le_of_ble_eq_true rfl) rfl rfl rfl ?_
            refine JL_nil ?_
            refine J_rs ?_
            refine R_loadbs Wide.wide 1 (vs := V.cells ⟨(c5.toNat : Int), 0, (txt (takeR (l, bad) 1).2).1⟩) rfl rfl _ Try.underlying36 rfl Try.type36 rfl rfl rfl ?_
            refine R_store Wide.wide 2 rfl rfl rfl rfl Try.type36 rfl (Nat.le_of_ble_eq_true rfl) rfl rfl rfl ?_
            refine JL_nil ?_
            refine J_ret ?_
            have hv0 : val0 (l, bad) = (⟨(c5.toNat : Int), 0, (txt (takeR (l, bad) 1).2).1⟩, (txt (takeR (l, bad) 1).2).2) := by
              simp only [val0, hc5, List.headD_cons]
              rw [if_neg (of_decide_eq_false hb15), if_pos (by simp_all)]
            have hbb : (valR (l, bad)).2.2 = (true) := by
              simp only [valR, hv0]
              simp [hb35]
            refine FinM.nil _ (.inl rfl) (R' := [.box rb 110 [u28, .bool (true)]]) [.box b3 36 (V.cells ⟨(c5.toNat : Int), 0, (txt (takeR (l, bad) 1).2).1⟩), .box b2 36 (V.cells ⟨(c5.toNat : Int), 0, (txt (takeR (l, bad) 1).2).1⟩)] (List.Perm.refl _) (Reads.one rfl (RV.cell 2 (t := 36) (cs := V.cells ⟨(c5.toNat : Int), 0, (txt (takeR (l, bad) 1).2).1⟩) _ rfl rfl Try.underlying36 rfl Try.type36 rfl)) fun h hf => ⟨by simp only [valR, hv0], u28, by rw [hbb], ?_⟩
            simp only [valR, hv0]
            exact hf
        · refine J_region ?_
          refine R_p Wide.wide (P_move rfl) rfl rfl ?_
          refine R_call Wide.wide Try.call58 rfl (c58 (l := (takeR (l, bad) 1).2.1) (bad := (takeR (l, bad) 1).2.2) (v := u5)) (rest := [.box b3 36 (V.cells ⟨(c5.toNat : Int), 0, []⟩), .box b2 36 V0.cells]) (List.Perm.swap _ _ _) (fun h hf => hf) (fun _ _ => inferInstance) rfl (fun v13 R13 => ?_)
          refine JL_fact (fun h hf => hf.2.1) fun e13a => ?_
          subst e13a
          refine JL_ex (fun (u : Value) h => R13 = [.box rb 110 [u, .bool (numR (takeR (l, bad) 1).2).2.2]] ∧ Bs h u (numR (takeR (l, bad) 1).2).2.1) (fun _ => inferInstance) (fun h hf => hf.2.2) fun u13 => ?_
          refine JL_fact (fun h hf => hf.2.1) fun e13 => ?_
          subst e13
          refine JL_facts (fun h => Bs h u13 (numR (takeR (l, bad) 1).2).2.1) (fun h hf => hf.2.2) ?_
          refine R_p Wide.wide (P_fieldAddr rfl Try.underlying36 rfl Try.type2 rfl rfl) rfl rfl ?_
          refine R_store Wide.wide 1 (vs := [.int .i64 (numR (takeR (l, bad) 1).2).1]) rfl rfl rfl rfl Try.type2 rfl (Nat.le_of_ble_eq_true rfl) rfl (cs' := V.cells ⟨(c5.toNat : Int), (numR (takeR (l, bad) 1).2).1, []⟩) rfl rfl ?_
          refine JL_nil ?_
          refine J_rs ?_
          refine R_p Wide.wide (P_move rfl) rfl rfl ?_
          refine R_p Wide.wide (P_move rfl) rfl rfl ?_
          refine R_p Wide.wide (P_nil rfl) rfl rfl ?_
          refine R_p Wide.wide (P_fieldAddr rfl Try.underlying110 rfl Try.type4 rfl rfl) rfl rfl ?_
          refine R_loadb Wide.wide 0 rfl rfl _ Try.underlying4 rfl rfl rfl ?_
          refine R_p Wide.wide (P_move rfl) rfl rfl ?_
          refine R_gd Wide.wide rfl rfl rfl (fun hb35 => ?_) (fun hb35 => ?_)
          · refine R_loadbs Wide.wide 1 (vs := V.cells ⟨(c5.toNat : Int), (numR (takeR (l, bad) 1).2).1, []⟩) rfl rfl _ Try.underlying36 rfl Try.type36 rfl rfl rfl ?_
            refine R_gy rfl rfl ?_
            refine R_fv Wide.wide Try.call35 rfl (c35 (v := ⟨(c5.toNat : Int), (numR (takeR (l, bad) 1).2).1, []⟩) (Nat.zero_le _)) (fun h hf => trivial) rfl ?_
            refine R_gy rfl rfl ?_
            refine R_p Wide.wide (P_nei rfl rfl) rfl rfl ?_
            refine R_p Wide.wide (P_pickf rfl rfl) rfl rfl ?_
            refine R_p Wide.wide (P_nil rfl) rfl rfl ?_
            refine R_p Wide.wide (P_fieldAddr rfl Try.underlying110 rfl Try.type4 rfl rfl) rfl rfl ?_
            refine R_store Wide.wide 0 (vs := [.bool (decide ((if mayV ⟨(c5.toNat : Int), (numR (takeR (l, bad) 1).2).1, []⟩ then (0 : Int) else 10) ≠ 0))]) rfl rfl rfl rfl Try.type4 rfl (Nat.le_of_ble_eq_true rfl) rfl rfl rfl ?_
            refine JL_nil ?_
            refine J_rs ?_
            refine R_loadbs Wide.wide 1 (vs := V.cells ⟨(c5.toNat : Int), (numR (takeR (l, bad) 1).2).1, []⟩) rfl rfl _ Try.underlying36 rfl Try.type36 rfl rfl rfl ?_
            refine R_store Wide.wide 2 rfl rfl rfl rfl Try.type36 rfl (Nat.le_of_ble_eq_true rfl) rfl rfl rfl ?_
            refine JL_nil ?_
            refine J_ret ?_
            have hv0 : val0 (l, bad) = (⟨(c5.toNat : Int), (numR (takeR (l, bad) 1).2).1, []⟩, (numR (takeR (l, bad) 1).2).2) := by
              simp only [val0, hc5, List.headD_cons]
              rw [if_neg (of_decide_eq_false hb15), if_neg (by simp_all)]
            have hbb : (valR (l, bad)).2.2 = (decide ((if mayV ⟨(c5.toNat : Int), (numR (takeR (l, bad) 1).2).1, []⟩ then (0 : Int) else 10) ≠ 0)) := by
              simp only [valR, hv0]
              simp only [show (numR (takeR (l, bad) 1).2).2.2 = false by simpa using hb35, Bool.false_or]; by_cases hm : mayV ⟨(c5.toNat : Int), (numR (takeR (l, bad) 1).2).1, []⟩ = true <;> simp [hm]
            refine FinM.nil _ (.inl rfl) (R' := [.box rb 110 [u13, .bool (decide ((if mayV ⟨(c5.toNat : Int), (numR (takeR (l, bad) 1).2).1, []⟩ then (0 : Int) else 10) ≠ 0))]]) [.box b3 36 (V.cells ⟨(c5.toNat : Int), (numR (takeR (l, bad) 1).2).1, []⟩), .box b2 36 (V.cells ⟨(c5.toNat : Int), (numR (takeR (l, bad) 1).2).1, []⟩)] (List.Perm.refl _) (Reads.one rfl (RV.cell 2 (t := 36) (cs := V.cells ⟨(c5.toNat : Int), (numR (takeR (l, bad) 1).2).1, []⟩) _ rfl rfl Try.underlying36 rfl Try.type36 rfl)) fun h hf => ⟨by simp only [valR, hv0], u13, by rw [hbb], ?_⟩
            simp only [valR, hv0]
            exact hf
          · refine R_gn Wide.wide rfl rfl rfl rfl ?_
            refine R_gn Wide.wide rfl rfl rfl rfl ?_
            refine R_p Wide.wide (P_pickt rfl rfl) rfl rfl ?_
            refine R_p Wide.wide (P_nil rfl) rfl rfl ?_
            refine R_p Wide.wide (P_fieldAddr rfl Try.underlying110 rfl Try.type4 rfl rfl) rfl rfl ?_
            refine R_store Wide.wide 0 (vs := [.bool (true)]) rfl rfl rfl rfl Try.type4 rfl (Nat.le_of_ble_eq_true rfl) rfl rfl rfl ?_
            refine JL_nil ?_
            refine J_rs ?_
            refine R_loadbs Wide.wide 1 (vs := V.cells ⟨(c5.toNat : Int), (numR (takeR (l, bad) 1).2).1, []⟩) rfl rfl _ Try.underlying36 rfl Try.type36 rfl rfl rfl ?_
            refine R_store Wide.wide 2 rfl rfl rfl rfl Try.type36 rfl (Nat.le_of_ble_eq_true rfl) rfl rfl rfl ?_
            refine JL_nil ?_
            refine J_ret ?_
            have hv0 : val0 (l, bad) = (⟨(c5.toNat : Int), (numR (takeR (l, bad) 1).2).1, []⟩, (numR (takeR (l, bad) 1).2).2) := by
              simp only [val0, hc5, List.headD_cons]
              rw [if_neg (of_decide_eq_false hb15), if_neg (by simp_all)]
            have hbb : (valR (l, bad)).2.2 = (true) := by
              simp only [valR, hv0]
              simp [hb35]
            refine FinM.nil _ (.inl rfl) (R' := [.box rb 110 [u13, .bool (true)]]) [.box b3 36 (V.cells ⟨(c5.toNat : Int), (numR (takeR (l, bad) 1).2).1, []⟩), .box b2 36 (V.cells ⟨(c5.toNat : Int), (numR (takeR (l, bad) 1).2).1, []⟩)] (List.Perm.refl _) (Reads.one rfl (RV.cell 2 (t := 36) (cs := V.cells ⟨(c5.toNat : Int), (numR (takeR (l, bad) 1).2).1, []⟩) _ rfl rfl Try.underlying36 rfl Try.type36 rfl)) fun h hf => ⟨by simp only [valR, hv0], u13, by rw [hbb], ?_⟩
            simp only [valR, hv0]
            exact hf

end Go.Proofs.Ytgheodbcgddjlaa
