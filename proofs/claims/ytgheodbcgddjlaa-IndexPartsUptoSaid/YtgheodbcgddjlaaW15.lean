/- Walks: a reader's parts, told one by one. -/
import Derived.Test.YtgheodbcgddjlaaS6
set_option linter.unusedVariables false
set_option linter.unusedSimpArgs false
namespace Go.Proofs.Ytgheodbcgddjlaa
open Go.RowKit Go.Grow Go.Hl Go.Ix

set_option maxRecDepth 100000 in
theorem c56 {kv v : Value} {ks : List Bool} {rb c2 c3 : Nat} {l : List UInt8} {bad : Bool} (hl : l.length ≤ 1000000) (hks : ks.length ≤ 1000000) : SeqCt Try.prog 56 [.pointer (some ⟨c2, 0, none⟩), .pointer (some ⟨c3, 0, none⟩)] [.box rb 110 [v, .bool bad]] (fun h => Kp kv ks rb c2 c3 h ∧ Bs h v l) (fun p : Pt => [.agg p.cells.toArray]) (partsR ks (l, bad)).1 (fun R' h => ∃ v', R' = [.box rb 110 [v', .bool (partsR ks (l, bad)).2.2]] ∧ Bs h v' (partsR ks (l, bad)).2.1) := by
  intro ly Y Z mY mZ hy r
  have ea : #[Value.func (.yield ly) #[] #[]] ++ [Value.pointer (some ⟨c2, 0, none⟩), .pointer (some ⟨c3, 0, none⟩)].toArray = [Value.func (.yield ly) #[] #[], .pointer (some ⟨c2, 0, none⟩), .pointer (some ⟨c3, 0, none⟩)].toArray := by simp
  rw [ea]
  refine ct_of_JM Try.func56 rfl ⟨fun hle z => ⟨⟨Mono.le (F := Kp kv ks rb c2 c3) hle z.1.1, Mono.le (F := fun h => Bs h v l) hle z.1.2⟩, (mY _ _).le hle z.2⟩⟩ 31 Try.ntmps56 (Nat.le_of_ble_eq_true rfl) fun W0 h0 => ?_
  refine J_rs ?_
  refine R_load Wide.wide rfl _ Try.underlying94 rfl rfl (fun h hf => RdC.of_cells (cs := [kv]) hf.1.1.1 0 _ rfl) ?_
  refine R_lenf Wide.wide rfl (fun h hf => hf.1.1.2.2) Try.underlying94 rfl ?_
  refine R_p Wide.wide (P_move rfl) rfl rfl ?_
  refine JL_nil ?_
  refine J_block ?_
  refine J_round (ι := {p : Nat × List Pt × Rs × Value × Res // p.1 ≤ ks.length ∧ partsR ks (l, bad) = (p.2.1 ++ (partsR (ks.drop p.1) p.2.2.1).1, (partsR (ks.drop p.1) p.2.2.1).2) ∧ p.2.2.1.1.length ≤ 1000000}) (fun p => ⟨[(0, .func (.yield ly) #[] #[]), (1, .pointer (some ⟨c2, 0, none⟩)), (2, .pointer (some ⟨c3, 0, none⟩)), (7, kv), (8, .int .i64 ks.length), (9, .int .i64 (p.1.1 : Nat))], [.box rb 110 [p.1.2.2.2.1, .bool p.1.2.2.1.2], p.1.2.2.2.2], fun h => (Kp kv ks rb c2 c3 h ∧ Bs h p.1.2.2.2.1 p.1.2.2.1.1) ∧ Y p.1.2.1 p.1.2.2.2.2 h, ⟨fun hle z => ⟨⟨Mono.le (F := Kp kv ks rb c2 c3) hle z.1.1, Mono.le (F := fun h => Bs h p.1.2.2.2.1 p.1.2.2.1.1) hle z.1.2⟩, (mY _ _).le hle z.2⟩⟩, []⟩) (fun p => ks.length - p.1.1) ⟨(0, [], (l, bad), v, r), Nat.zero_le _, by simp, hl⟩ (Le.perm _ (List.Perm.swap _ _ _) (Le.mk ⟨rfl, rfl, rfl, rfl, rfl, rfl, trivial⟩ rfl rfl fun _ h => h)) ?_
  rintro ⟨⟨i, pre, s, v, r⟩, hi, hrel, hsl⟩
  dsimp only at hi hrel hsl ⊢
  refine J_rs ?_
  refine R_p Wide.wide (P_lss rfl rfl) rfl rfl ?_
  refine JL_nil ?_
  refine J_seq ?_
  refine J_ifs rfl (fun hb10 => ?_) (fun hb10 => ?_)
  · refine J_skip ?_
    show J _ _ _ _ _ _
    refine J_seq ?_
    refine J_block ?_
    refine J_rs ?_
    have hlt : i < ks.length := by have := of_decide_eq_true hb10; omega
    have hget : ks[i * Try.t4.size]? = some ks[i] := by rw [show i * Try.t4.size = i from Nat.mul_one i]; exact List.getElem?_eq_getElem _
    have hdr : ks.drop i = ks[i] :: ks.drop (i + 1) := List.drop_eq_getElem_cons _
    rw [hdr] at hrel
    clear hdr
    generalize ks[i] = k at hget hrel
    refine R_indexf Wide.wide rfl rfl (fun h hf => hf.1.1.2.2) hlt Try.underlying94 Try.type4 rfl rfl (fun b11 off11 => ?_)
    refine R_load Wide.wide rfl _ Try.underlying4 rfl rfl (fun h hf => hf.2 _ _ (bb_get hget)) ?_
    refine R_p Wide.wide (P_assign rfl) rfl rfl ?_
    refine JL_nil ?_
    refine J_rs ?_
    refine R_alloc Wide.wide Try.type38 rfl rfl rfl (fun b6 => ?_)
    refine JL_nil ?_
    refine J_seq ?_
    refine J_rs ?_
    refine R_p Wide.wide (P_move rfl) rfl rfl ?_
    refine JL_nil ?_
    refine J_ifs rfl (fun hb13 => ?_) (fun hb13 => ?_)
    · refine J_region ?_
      refine R_load Wide.wide rfl _ Try.underlying108 rfl rfl (fun h hf => RdC.of_cells (cs := [.pointer (some ⟨rb, 0, none⟩)]) hf.1.1.1.2.1 0 _ rfl) ?_
      refine R_call Wide.wide Try.call57 rfl (c57 (l := s.1) (bad := s.2) (v := v) hsl) (rest := [.box b6 38 (pn 0).cells, r]) (List.Perm.swap _ _ _) (fun h hf => hf.1.1.2) (fun _ _ => inferInstance) rfl (fun v15 R15 => ?_)
      refine JL_fact (fun h hf => hf.2.1) fun e15a => ?_
      subst e15a
      refine JL_ex (fun (u : Value) h => R15 = [.box rb 110 [u, .bool (valR s).2.2]] ∧ Bs h u (valR s).2.1) (fun _ => inferInstance) (fun h hf => hf.2.2) fun u => ?_
      refine JL_fact (fun h hf => hf.2.1) fun e15 => ?_
      subst e15
      refine JL_facts (hG := ⟨fun hle z => ⟨⟨Mono.le (F := Kp kv ks rb c2 c3) hle z.1.1, Mono.le (F := fun h => Bs h u (valR s).2.1) hle z.1.2⟩, (mY _ _).le hle z.2⟩⟩) (fun h => (Kp kv ks rb c2 c3 h ∧ Bs h u (valR s).2.1) ∧ Y pre r h) (fun h hf => ⟨⟨hf.1.1.1.1.1, hf.2.2⟩, hf.1.1.1.2⟩) ?_
      refine R_p Wide.wide (P_build [1, 1, 3] Try.underlying38 Try.type38 rfl rfl (ivs := [(0, .bool true), (2, .agg (valR s).1.cells.toArray)]) (cs := (pv (valR s).1).cells) rfl rfl) rfl rfl ?_
      refine R_store Wide.wide 1 (vs := (pv (valR s).1).cells) rfl rfl rfl rfl Try.type38 rfl (Nat.le_of_ble_eq_true rfl) rfl (cs' := (pv (valR s).1).cells) rfl rfl ?_
      refine JL_nil ?_
      have hk : k = true := hb13
      subst hk
      have hpr : partR true s = (pv (valR s).1, (valR s).2) := rfl
      have hle := partR_length true s
      rw [hpr] at hle
      simp only [partsR, hpr] at hrel
      refine J_rs ?_
      refine R_load Wide.wide rfl _ Try.underlying108 rfl rfl (fun h hf => RdC.of_cells (cs := [.pointer (some ⟨rb, 0, none⟩)]) hf.1.1.2.1 0 _ rfl) ?_
      refine R_p Wide.wide (P_nil rfl) rfl rfl ?_
      refine R_p Wide.wide (P_fieldAddr rfl Try.underlying110 rfl Try.type4 rfl rfl) rfl rfl ?_
      refine R_loadb Wide.wide 0 rfl rfl _ Try.underlying4 rfl rfl rfl ?_
      refine R_p Wide.wide (P_move rfl) rfl rfl ?_
      refine R_gd Wide.wide rfl rfl rfl (fun hb24 => ?_) (fun hb24 => ?_)
      · have hrel' : partsR ks (l, bad) = (pre ++ pv (valR s).1 :: (partsR (ks.drop (i + 1)) (valR s).2).1, (partsR (ks.drop (i + 1)) (valR s).2).2) := by
          rw [hrel, if_neg (by simpa using hb24)]
        have hsp : (partsR ks (l, bad)).1 = pre ++ pv (valR s).1 :: (partsR (ks.drop (i + 1)) (valR s).2).1 := by rw [hrel']
        refine R_p Wide.wide (P_move rfl) rfl rfl ?_
        refine R_gy rfl rfl ?_
        refine R_loadbs Wide.wide 1 (vs := (pv (valR s).1).cells) rfl rfl _ Try.underlying38 rfl Try.type38 rfl rfl rfl ?_
        refine R_gy rfl rfl ?_
        refine R_yieldY (.inl rfl) mY mZ hy (pre := pre) (x := pv (valR s).1) (suf := (partsR (ks.drop (i + 1)) (valR s).2).1) (hsp) rfl rfl (List.perm_append_comm (l₁ := [Res.box rb 110 [u, .bool (valR s).2.2], .box b6 38 (pv (valR s).1).cells]) (l₂ := [r])) (fun h hf => hf.2) rfl (fun r27 => ?_) (fun r27 => ?_)
        · refine R_gy rfl rfl ?_
          refine R_p Wide.wide (P_not rfl) rfl rfl ?_
          refine R_p Wide.wide (P_pickf rfl rfl) rfl rfl ?_
          refine JL_nil ?_
          refine J_iff rfl ?_
          refine J_skip ?_
          show J _ _ _ _ _ _
          refine J_region ?_
          refine R_p Wide.wide (P_add rfl rfl ((i + 1 : Nat) : Int) (w64x (by omega) (by omega))) rfl rfl ?_
          refine R_p Wide.wide (P_move rfl) rfl rfl ?_
          refine JL_nil ?_
          exact ⟨⟨(i + 1, pre ++ [pv (valR s).1], (valR s).2, u, r27), hlt, by rw [hrel']; simp, by simp only at hle ⊢; omega⟩, by simp only; omega, Le.drop 2 (Le.perm _ (List.Perm.swap _ _ _) (Le.mk ⟨rfl, rfl, rfl, rfl, rfl, rfl, trivial⟩ rfl rfl fun _ hf => ⟨hf.1.1, hf.2⟩))⟩
        · refine R_gy rfl rfl ?_
          refine R_p Wide.wide (P_not rfl) rfl rfl ?_
          refine R_p Wide.wide (P_pickf rfl rfl) rfl rfl ?_
          refine JL_nil ?_
          refine J_ift rfl ?_
          refine J_ret ?_
          refine FinM.nil _ (.inl rfl) (R' := [r27, .box rb 110 [u, .bool (valR s).2.2]]) [.box b6 38 (pv (valR s).1).cells] (List.Perm.refl _) (Reads.none rfl) fun h hf => ⟨r27, _, rfl, .inr ⟨_, ⟨_, (cons_mid hsp).symm⟩, hf.2⟩⟩
      · refine R_gn Wide.wide rfl rfl rfl rfl ?_
        refine R_gn Wide.wide rfl rfl rfl rfl ?_
        refine R_gn Wide.wide rfl rfl rfl rfl ?_
        refine R_p Wide.wide (P_pickt rfl rfl) rfl rfl ?_
        refine JL_nil ?_
        refine J_ift rfl ?_
        refine J_ret ?_
        have hx : partsR ks (l, bad) = (pre, (valR s).2) := by
          rw [hrel, if_pos (by simpa using hb24)]; simp
        refine FinM.nil _ (.inl rfl) (R' := [r, .box rb 110 [u, .bool (valR s).2.2]]) [.box b6 38 (pv (valR s).1).cells] (List.perm_append_comm (l₁ := [Res.box rb 110 [u, .bool (valR s).2.2], .box b6 38 (pv (valR s).1).cells]) (l₂ := [r])) (Reads.none rfl) fun h hf => ⟨r, _, rfl, .inl ⟨?_, u, ?_⟩⟩
        · rw [hx]; exact hf.2
        · rw [hx]; exact ⟨rfl, hf.1.2⟩
    · refine J_region ?_
      refine R_load Wide.wide rfl _ Try.underlying108 rfl rfl (fun h hf => RdC.of_cells (cs := [.pointer (some ⟨rb, 0, none⟩)]) hf.1.1.1.2.1 0 _ rfl) ?_
      refine R_call Wide.wide Try.call58 rfl (c58 (l := s.1) (bad := s.2) (v := v)) (rest := [.box b6 38 (pn 0).cells, r]) (List.Perm.swap _ _ _) (fun h hf => hf.1.1.2) (fun _ _ => inferInstance) rfl (fun v18 R18 => ?_)
      refine JL_fact (fun h hf => hf.2.1) fun e18a => ?_
      subst e18a
      refine JL_ex (fun (u : Value) h => R18 = [.box rb 110 [u, .bool (numR s).2.2]] ∧ Bs h u (numR s).2.1) (fun _ => inferInstance) (fun h hf => hf.2.2) fun u => ?_
      refine JL_fact (fun h hf => hf.2.1) fun e18 => ?_
      subst e18
      refine JL_facts (hG := ⟨fun hle z => ⟨⟨Mono.le (F := Kp kv ks rb c2 c3) hle z.1.1, Mono.le (F := fun h => Bs h u (numR s).2.1) hle z.1.2⟩, (mY _ _).le hle z.2⟩⟩) (fun h => (Kp kv ks rb c2 c3 h ∧ Bs h u (numR s).2.1) ∧ Y pre r h) (fun h hf => ⟨⟨hf.1.1.1.1.1, hf.2.2⟩, hf.1.1.1.2⟩) ?_
      refine R_p Wide.wide (P_build [1, 1, 3] Try.underlying38 Try.type38 rfl rfl (ivs := [(1, .int .i64 (numR s).1)]) (cs := (pn (numR s).1).cells) rfl rfl) rfl rfl ?_
      refine R_store Wide.wide 1 (vs := (pn (numR s).1).cells) rfl rfl rfl rfl Try.type38 rfl (Nat.le_of_ble_eq_true rfl) rfl (cs' := (pn (numR s).1).cells) rfl rfl ?_
      refine JL_nil ?_
      have hk : k = false := hb13
      subst hk
      have hpr : partR false s = (pn (numR s).1, (numR s).2) := rfl
      have hle := partR_length false s
      rw [hpr] at hle
      simp only [partsR, hpr] at hrel
      refine J_rs ?_
      refine R_load Wide.wide rfl _ Try.underlying108 rfl rfl (fun h hf => RdC.of_cells (cs := [.pointer (some ⟨rb, 0, none⟩)]) hf.1.1.2.1 0 _ rfl) ?_
      refine R_p Wide.wide (P_nil rfl) rfl rfl ?_
      refine R_p Wide.wide (P_fieldAddr rfl Try.underlying110 rfl Try.type4 rfl rfl) rfl rfl ?_
      refine R_loadb Wide.wide 0 rfl rfl _ Try.underlying4 rfl rfl rfl ?_
      refine R_p Wide.wide (P_move rfl) rfl rfl ?_
      refine R_gd Wide.wide rfl rfl rfl (fun hb24 => ?_) (fun hb24 => ?_)
      · have hrel' : partsR ks (l, bad) = (pre ++ pn (numR s).1 :: (partsR (ks.drop (i + 1)) (numR s).2).1, (partsR (ks.drop (i + 1)) (numR s).2).2) := by
          rw [hrel, if_neg (by simpa using hb24)]
        have hsp : (partsR ks (l, bad)).1 = pre ++ pn (numR s).1 :: (partsR (ks.drop (i + 1)) (numR s).2).1 := by rw [hrel']
        refine R_p Wide.wide (P_move rfl) rfl rfl ?_
        refine R_gy rfl rfl ?_
        refine R_loadbs Wide.wide 1 (vs := (pn (numR s).1).cells) rfl rfl _ Try.underlying38 rfl Try.type38 rfl rfl rfl ?_
        refine R_gy rfl rfl ?_
        refine R_yieldY (.inl rfl) mY mZ hy (pre := pre) (x := pn (numR s).1) (suf := (partsR (ks.drop (i + 1)) (numR s).2).1) (hsp) rfl rfl (List.perm_append_comm (l₁ := [Res.box rb 110 [u, .bool (numR s).2.2], .box b6 38 (pn (numR s).1).cells]) (l₂ := [r])) (fun h hf => hf.2) rfl (fun r27 => ?_) (fun r27 => ?_)
        · refine R_gy rfl rfl ?_
          refine R_p Wide.wide (P_not rfl) rfl rfl ?_
          refine R_p Wide.wide (P_pickf rfl rfl) rfl rfl ?_
          refine JL_nil ?_
          refine J_iff rfl ?_
          refine J_skip ?_
          show J _ _ _ _ _ _
          refine J_region ?_
          refine R_p Wide.wide (P_add rfl rfl ((i + 1 : Nat) : Int) (w64x (by omega) (by omega))) rfl rfl ?_
          refine R_p Wide.wide (P_move rfl) rfl rfl ?_
          refine JL_nil ?_
          exact ⟨⟨(i + 1, pre ++ [pn (numR s).1], (numR s).2, u, r27), hlt, by rw [hrel']; simp, by simp only at hle ⊢; omega⟩, by simp only; omega, Le.drop 2 (Le.perm _ (List.Perm.swap _ _ _) (Le.mk ⟨rfl, rfl, rfl, rfl, rfl, rfl, trivial⟩ rfl rfl fun _ hf => ⟨hf.1.1, hf.2⟩))⟩
        · refine R_gy rfl rfl ?_
          refine R_p Wide.wide (P_not rfl) rfl rfl ?_
          refine R_p Wide.wide (P_pickf rfl rfl) rfl rfl ?_
          refine JL_nil ?_
          refine J_ift rfl ?_
          refine J_ret ?_
          refine FinM.nil _ (.inl rfl) (R' := [r27, .box rb 110 [u, .bool (numR s).2.2]]) [.box b6 38 (pn (numR s).1).cells] (List.Perm.refl _) (Reads.none rfl) fun h hf => ⟨r27, _, rfl, .inr ⟨_, ⟨_, (cons_mid hsp).symm⟩, hf.2⟩⟩
      · refine R_gn Wide.wide rfl rfl rfl rfl ?_
        refine R_gn Wide.wide rfl rfl rfl rfl ?_
        refine R_gn Wide.wide rfl rfl rfl rfl ?_
        refine R_p Wide.wide (P_pickt rfl rfl) rfl rfl ?_
        refine JL_nil ?_
        refine J_ift rfl ?_
        refine J_ret ?_
        have hx : partsR ks (l, bad) = (pre, (numR s).2) := by
          rw [hrel, if_pos (by simpa using hb24)]; simp
        refine FinM.nil _ (.inl rfl) (R' := [r, .box rb 110 [u, .bool (numR s).2.2]]) [.box b6 38 (pn (numR s).1).cells] (List.perm_append_comm (l₁ := [Res.box rb 110 [u, .bool (numR s).2.2], .box b6 38 (pn (numR s).1).cells]) (l₂ := [r])) (Reads.none rfl) fun h hf => ⟨r, _, rfl, .inl ⟨?_, u, ?_⟩⟩
        · rw [hx]; exact hf.2
        · rw [hx]; exact ⟨rfl, hf.1.2⟩
  · refine J_exit ?_
    show FinM _ _ _ _ _
    have hil : i = ks.length := by have := of_decide_eq_false hb10; omega
    have hx : partsR ks (l, bad) = (pre, s) := by rw [hrel, hil]; simp [partsR]
    refine FinM.nil _ (.inr rfl) (R' := [r, .box rb 110 [v, .bool s.2]]) [] (List.Perm.swap _ _ _) (Reads.none rfl) fun h hf => ⟨r, _, rfl, .inl ⟨?_, v, ?_⟩⟩
    · rw [hx]; exact hf.2
    · rw [hx]; exact ⟨rfl, hf.1.2⟩

end Go.Proofs.Ytgheodbcgddjlaa
