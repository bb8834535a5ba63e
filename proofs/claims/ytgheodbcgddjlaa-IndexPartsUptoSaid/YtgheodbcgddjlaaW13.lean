/- Walks: a reader's texts. -/
import Derived.Test.YtgheodbcgddjlaaW12
set_option linter.unusedVariables false
set_option linter.unusedSimpArgs false
namespace Go.Proofs.Ytgheodbcgddjlaa
open Go.RowKit Go.Grow Go.Hl Go.Ix
theorem u8o (c : UInt8) : ((c.toNat : Int) = 1) ↔ c = 1 := by
  rw [← UInt8.toNat_inj]
  have : (1 : UInt8).toNat = 1 := rfl
  rw [this]; omega

set_option maxRecDepth 100000 in
theorem c60 {rb : Nat} {l : List UInt8} {bad : Bool} {v : Value} (hl : l.length ≤ 1000000) : Ct Try.prog 60 [.pointer (some ⟨rb, 0, none⟩)].toArray [.box rb 110 [v, .bool bad]] (fun h => Bs h v l) (fun u R' h => u = .string (bs (txt (l, bad)).1) ∧ ∃ v', R' = [.box rb 110 [v', .bool (txt (l, bad)).2.2]] ∧ Bs h v' (txt (l, bad)).2.1) := by
  refine ct_of_JM Try.func60 rfl inferInstance 36 Try.ntmps60 (Nat.le_of_ble_eq_true rfl) fun W0 h0 => ?_
  refine J_rs ?_
  refine R_p Wide.wide (P_assign rfl) rfl rfl ?_
  refine JL_nil ?_
  refine J_scope ?_
  refine J_rs ?_
  refine R_p Wide.wide (P_assign rfl) rfl rfl ?_
  refine JL_nil ?_
  refine J_seq ?_
  refine J_label ?_
  show J _ _ _ _ _ _
  refine J_seq ?_
  refine J_block ?_
  refine J_ownnil 5 1 ?_
  refine J_round (ι := {p : Nat × List UInt8 × Rs × Value × Value // txtR p.1 p.2.1 p.2.2.1 = txt (l, bad) ∧ mR p.2.2.1 ≤ p.1 ∧ p.2.1.length + p.2.2.1.1.length ≤ l.length}) (fun p => ⟨[(0, .pointer (some ⟨rb, 0, none⟩)), (3, p.1.2.2.2.2)], [.box rb 110 [p.1.2.2.2.1, .bool p.1.2.2.1.2], ownb 5 p.1.2.2.2.2 p.1.2.1], fun h => Bs h p.1.2.2.2.1 p.1.2.2.1.1, inferInstance, []⟩) (fun p => p.1.1) ⟨(l.length + 1, [], (l, bad), v, .slice none 0 0), rfl, by unfold mR; split <;> simp, by simp⟩ (Le.perm _ (List.Perm.swap _ _ _) (Le.mk ⟨rfl, rfl, trivial⟩ rfl rfl fun _ h => h)) ?_
  rintro ⟨⟨n, out, s, v, w⟩, htx, hm, hsz⟩
  dsimp only at htx hm hsz ⊢
  refine J_seq ?_
  refine J_rs ?_
  refine R_p Wide.wide (P_move rfl) rfl rfl ?_
  refine R_p Wide.wide (P_nil rfl) rfl rfl ?_
  refine R_p Wide.wide (P_fieldAddr rfl Try.underlying110 rfl Try.type4 rfl rfl) rfl rfl ?_
  refine R_loadb Wide.wide 0 rfl rfl _ Try.underlying4 rfl rfl rfl ?_
  refine R_p Wide.wide (P_not rfl) rfl rfl ?_
  refine JL_nil ?_
  refine J_ifs rfl (fun hb9 => ?_) (fun hb9 => ?_)
  · refine J_skip ?_
    show J _ _ _ _ _ _
    refine J_block ?_
    refine J_rs ?_
    have hbad : s.2 = false := by simpa using hb9
    obtain ⟨n, rfl⟩ : ∃ k, n = k + 1 := ⟨n - 1, by have h1 : 1 ≤ mR s := (by unfold mR; simp [hbad]); omega⟩
    have hm1 := takeR_m s hbad
    refine R_p Wide.wide (P_move rfl) rfl rfl ?_
    refine R_call Wide.wide Try.call59 rfl (c59 (n := 1) (l := (s).1) (bad := (s).2) (v := v) (by decide) (by decide)) (rest := [ownb 5 w out]) (List.Perm.refl _) (fun h hf => hf) (fun _ _ => inferInstance) rfl (fun v11 R11 => ?_)
    refine JL_ex (fun (u : Value) h => R11 = [.box rb 110 [u, .bool (takeR (s) 1).2.2]] ∧ Bs h u (takeR (s) 1).2.1 ∧ Bs h v11 (takeR (s) 1).1) (fun _ => inferInstance) (fun h hf => hf.2) fun u11 => ?_
    refine JL_fact (fun h hf => hf.2.1) fun e11 => ?_
    subst e11
    obtain ⟨c, hc⟩ := takeR_one (s)
    refine JL_facts (fun h => Bs h v11 [c] ∧ Bs h u11 (takeR (s) 1).2.1) (fun h hf => ⟨by rw [← hc]; exact hf.2.2.2, hf.2.2.1⟩) ?_
    refine R_indexf (i := 0) Wide.wide rfl rfl (fun h hf => hf.1) (Nat.zero_lt_succ _) Try.underlying49 Try.type5 rfl rfl (fun b12 off12 => ?_)
    refine R_load Wide.wide rfl _ Try.underlying5 rfl rfl (fun h hf => hf.2 (0 * Try.t5.size) _ rfl) ?_
    refine R_p Wide.wide (P_assign rfl) rfl rfl ?_
    refine JL_nil ?_
    refine J_seq ?_
    refine J_rs ?_
    refine R_p Wide.wide (P_move rfl) rfl rfl ?_
    refine R_p Wide.wide (P_nei rfl rfl) rfl rfl ?_
    refine JL_nil ?_
    refine J_ifs rfl (fun hb15 => ?_) (fun hb15 => ?_)
    · refine J_rs ?_
      refine R_p Wide.wide (P_move rfl) rfl rfl ?_
      refine R_p Wide.wide (P_move rfl) rfl rfl ?_
      refine R_bslice Wide.wide Try.underlying49 Try.type5 rfl (ivs := [(0, .int .u8 (c.toNat : Int))]) rfl rfl rfl rfl (fun b18 => ?_)
      refine R_appb Wide.wide 2 (xs := out) rfl rfl rfl Try.underlying49 Try.type5 rfl rfl rfl rfl (ys := [c]) (Src.box0 0 rfl) rfl (by simp only [List.length_cons, List.length_nil]; omega) rfl (fun v19 => ?_)
      refine JL_drop 0 ?_
      refine R_p Wide.wide (P_assign rfl) rfl rfl ?_
      refine JL_nil ?_
      refine J_exit ?_
      have hc0 : c ≠ 0 := fun e => of_decide_eq_true hb15 ((u8z c).2 e)
      have hl1 := takeR_len s hbad c hc hc0
      exact ⟨⟨(n, out ++ [c], (takeR s 1).2, u11, v19), by rw [← htx]; simp [txtR, hbad, hc, hc0], by simp only; omega, by simp only [List.length_append, List.length_cons, List.length_nil]; omega⟩, by simp only; omega, Le.mk ⟨rfl, rfl, trivial⟩ rfl rfl fun _ hf => hf.1.2⟩
    · refine J_skip ?_
      show J _ _ _ _ _ _
      refine J_rs ?_
      refine R_p Wide.wide (P_move rfl) rfl rfl ?_
      refine R_call Wide.wide Try.call59 rfl (c59 (n := 1) (l := ((takeR s 1).2).1) (bad := ((takeR s 1).2).2) (v := u11) (by decide) (by decide)) (rest := [ownb 5 w out]) (List.Perm.refl _) (fun h hf => hf.1.2) (fun _ _ => inferInstance) rfl (fun v21 R21 => ?_)
      refine JL_ex (fun (u : Value) h => R21 = [.box rb 110 [u, .bool (takeR ((takeR s 1).2) 1).2.2]] ∧ Bs h u (takeR ((takeR s 1).2) 1).2.1 ∧ Bs h v21 (takeR ((takeR s 1).2) 1).1) (fun _ => inferInstance) (fun h hf => hf.2) fun u21 => ?_
      refine JL_fact (fun h hf => hf.2.1) fun e21 => ?_
      subst e21
      obtain ⟨d, hd⟩ := takeR_one ((takeR s 1).2)
      refine JL_facts (fun h => Bs h v21 [d] ∧ Bs h u21 (takeR ((takeR s 1).2) 1).2.1) (fun h hf => ⟨by rw [← hd]; exact hf.2.2.2, hf.2.2.1⟩) ?_
      refine R_indexf (i := 0) Wide.wide rfl rfl (fun h hf => hf.1) (Nat.zero_lt_succ _) Try.underlying49 Try.type5 rfl rfl (fun b22 off22 => ?_)
      refine R_load Wide.wide rfl _ Try.underlying5 rfl rfl (fun h hf => hf.2 (0 * Try.t5.size) _ rfl) ?_
      refine JL_nil ?_
      refine J_block ?_
      refine J_rs ?_
      refine R_p Wide.wide (P_eqi rfl rfl) rfl rfl ?_
      refine R_p Wide.wide (P_assign rfl) rfl rfl ?_
      refine JL_nil ?_
      refine J_ifs rfl (fun hb27 => ?_) (fun hb27 => ?_)
      · refine J_exit ?_
        show J _ _ _ _ _ _
        refine J_rs ?_
        refine R_p Wide.wide (P_move rfl) rfl rfl ?_
        refine R_ostr Wide.wide 1 rfl rfl Try.underlying49 Try.underlying5 Try.underlying9 rfl ?_
        refine R_p Wide.wide (P_assign rfl) rfl rfl ?_
        refine JL_nil ?_
        refine J_ret ?_
        have hc0 : c = 0 := Decidable.byContradiction fun e => of_decide_eq_false hb15 (fun e2 => e ((u8z c).1 e2))
        have hd1 : d = 1 := (u8o d).1 (of_decide_eq_true hb27)
        have hx : txt (l, bad) = (out, (takeR (takeR s 1).2 1).2) := by rw [← htx]; simp [txtR, hbad, hc, hc0, hd, hd1]
        refine FinM.nil _ (.inl rfl) (R' := [.box rb 110 [u21, .bool (takeR (takeR s 1).2 1).2.2]]) [ownb 5 w out] (List.Perm.refl _) (Reads.one rfl (RV.tmp rfl)) fun h hf => ?_
        rw [hx]
        exact ⟨rfl, u21, rfl, hf.1.2⟩
      · refine J_rs ?_
        refine R_p Wide.wide (P_eqi rfl rfl) rfl rfl ?_
        refine R_p Wide.wide (P_assign rfl) rfl rfl ?_
        refine JL_nil ?_
        refine J_ifs rfl (fun hb29 => ?_) (fun hb29 => ?_)
        · refine J_region ?_
          refine R_p Wide.wide (P_move rfl) rfl rfl ?_
          refine R_bslice Wide.wide Try.underlying49 Try.type5 rfl (ivs := [(0, .int .u8 0)]) rfl rfl rfl rfl (fun b32 => ?_)
          refine R_appb Wide.wide 2 (xs := out) rfl rfl rfl Try.underlying49 Try.type5 rfl rfl rfl rfl (ys := [0]) (Src.box0 0 rfl) rfl (by simp only [List.length_cons, List.length_nil]; omega) rfl (fun v33 => ?_)
          refine JL_drop 0 ?_
          refine R_p Wide.wide (P_assign rfl) rfl rfl ?_
          refine JL_nil ?_
          have hc0 : c = 0 := Decidable.byContradiction fun e => of_decide_eq_false hb15 (fun e2 => e ((u8z c).1 e2))
          have hd1 : d ≠ 1 := fun e => of_decide_eq_false hb27 ((u8o d).2 e)
          have hm2 := takeR_m' (takeR s 1).2
          have hl1 := takeR_le s 1
          have hd2 : d = 255 := (u8f d).1 (of_decide_eq_true hb29)
          have hl2 := takeR_len' (takeR s 1).2 d hd (by rw [hd2]; decide)
          exact ⟨⟨(n, out ++ [0], (takeR (takeR s 1).2 1).2, u21, v33), by rw [← htx]; simp [txtR, hbad, hc, hc0, hd, hd2], by simp only; omega, by simp only [List.length_append, List.length_cons, List.length_nil]; omega⟩, by simp only; omega, Le.mk ⟨rfl, rfl, trivial⟩ rfl rfl fun _ hf => hf.1.2⟩
        · refine J_region ?_
          refine R_p Wide.wide (P_move rfl) rfl rfl ?_
          refine R_p Wide.wide (P_nil rfl) rfl rfl ?_
          refine R_p Wide.wide (P_fieldAddr rfl Try.underlying110 rfl Try.type4 rfl rfl) rfl rfl ?_
          refine R_store Wide.wide 0 (vs := [.bool true]) rfl rfl rfl rfl Try.type4 rfl (Nat.le_of_ble_eq_true rfl) rfl rfl rfl ?_
          refine JL_nil ?_
          have hc0 : c = 0 := Decidable.byContradiction fun e => of_decide_eq_false hb15 (fun e2 => e ((u8z c).1 e2))
          have hd1 : d ≠ 1 := fun e => of_decide_eq_false hb27 ((u8o d).2 e)
          have hm2 := takeR_m' (takeR s 1).2
          have hl1 := takeR_le s 1
          have hd2 : d ≠ 255 := fun e => of_decide_eq_false hb29 ((u8f d).2 e)
          have hl2 := takeR_le (takeR s 1).2 1
          exact ⟨⟨(n, out, ((takeR (takeR s 1).2 1).2.1, true), u21, w), by rw [← htx]; simp [txtR, hbad, hc, hc0, hd, hd1, hd2], by unfold mR; simp, by simp only; omega⟩, by simp only; omega, Le.mk ⟨rfl, rfl, trivial⟩ rfl rfl fun _ hf => hf.1.2⟩
  · refine J_exit ?_
    show J _ _ _ _ _ _
    refine J_rs ?_
    refine R_p Wide.wide (P_move rfl) rfl rfl ?_
    refine R_ostr Wide.wide 1 rfl rfl Try.underlying49 Try.underlying5 Try.underlying9 rfl ?_
    refine R_p Wide.wide (P_assign rfl) rfl rfl ?_
    refine JL_nil ?_
    refine J_ret ?_
    have hbad : s.2 = true := by simpa using hb9
    have hx : txt (l, bad) = (out, s) := by rw [← htx]; exact txtR_bad _ _ _ hbad
    refine FinM.nil _ (.inl rfl) (R' := [.box rb 110 [v, .bool s.2]]) [ownb 5 w out] (List.Perm.refl _) (Reads.one rfl (RV.tmp rfl)) fun h hf => ?_
    rw [hx]
    exact ⟨rfl, v, rfl, hf⟩

end Go.Proofs.Ytgheodbcgddjlaa
