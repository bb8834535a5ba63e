/- Walks: the end of a prefix. -/
import Derived.Test.YtgheodbcgddjlaaW9
set_option linter.unusedVariables false
set_option linter.unusedSimpArgs false
namespace Go.Proofs.Ytgheodbcgddjlaa
open Go.RowKit Go.Grow Go.Hl Go.Ix
theorem u8f (c : UInt8) : ((c.toNat : Int) = 255) ↔ c = 255 := by
  rw [← UInt8.toNat_inj]
  have : (255 : UInt8).toNat = 255 := rfl
  rw [this]; omega

set_option maxRecDepth 100000 in
theorem c31 {v : Value} {l : List UInt8} (hb : l.length ≤ 1000000) : FnC Try.prog 31 [v].toArray (fun h => Bs h v l) (fun u h => (nB l l.length = 0 ∧ u = .tuple #[.slice none 0 0, .bool false]) ∨ (0 < nB l l.length ∧ ∃ w, u = .tuple #[w, .bool true] ∧ Bs h w (endL l))) := by
  refine ct_of_JM (R := []) Try.func31 rfl inferInstance 35 Try.ntmps31 (Nat.le_of_ble_eq_true rfl) fun W0 h0 => ?_
  refine J_rs ?_
  refine R_p Wide.wide (P_assign rfl) rfl rfl ?_
  refine R_p Wide.wide (P_assign rfl) rfl rfl ?_
  refine JL_nil ?_
  refine J_rs ?_
  refine R_p Wide.wide (P_move rfl) rfl rfl ?_
  refine R_lenf Wide.wide rfl (fun h hf => hf) Try.underlying49 rfl ?_
  refine R_p Wide.wide (P_assign rfl) rfl rfl ?_
  refine JL_nil ?_
  refine J_seq ?_
  refine J_block ?_
  refine J_round (ι := {n : Nat // n ≤ l.length ∧ nB l n = nB l l.length}) (fun n => ⟨[(0, v), (4, .int .i64 (n.1 : Nat))], [], fun h => Bs h v l, inferInstance, []⟩) (fun n => n.1) ⟨l.length, Nat.le_refl _, rfl⟩ (Le.mk ⟨rfl, rfl, trivial⟩ rfl rfl fun _ h => h) ?_
  rintro ⟨n, hn, hnb⟩
  dsimp only
  refine J_seq ?_
  refine J_rs ?_
  refine R_p Wide.wide (P_move rfl) rfl rfl ?_
  refine R_p Wide.wide (P_gtr rfl rfl) rfl rfl ?_
  refine R_p Wide.wide (P_move rfl) rfl rfl ?_
  refine R_gd Wide.wide rfl rfl rfl (fun hb10 => ?_) (fun hb10 => ?_)
  · refine R_p Wide.wide (P_move rfl) rfl rfl ?_
    refine R_gy rfl rfl ?_
    refine R_p Wide.wide (P_move rfl) rfl rfl ?_
    refine R_gy rfl rfl ?_
    have hn0 : 0 < n := by have := of_decide_eq_true hb10; omega
    obtain ⟨m, rfl⟩ : ∃ m, n = m + 1 := ⟨n - 1, by omega⟩
    have hml : m < l.length := by omega
    have hget : l[m * 1]? = some l[m] := by rw [Nat.mul_one]; exact List.getElem?_eq_getElem _
    have hget1 : l[m]? = some l[m] := List.getElem?_eq_getElem _
    generalize hc : l[m] = c at hget hget1
    refine R_p Wide.wide (P_sub rfl rfl (m : Int) (w64x (by omega) (by omega))) rfl rfl ?_
    refine R_gy rfl rfl ?_
    refine R_indexf Wide.wide rfl rfl (fun h hf => hf) hml Try.underlying49 Try.type5 rfl rfl (fun b14 off14 => ?_)
    refine R_gy rfl rfl ?_
    refine R_load Wide.wide rfl _ Try.underlying5 rfl rfl (fun h hf => hf.2 _ _ (cb_get hget)) ?_
    refine R_gy rfl rfl ?_
    refine R_p Wide.wide (P_eqi rfl rfl) rfl rfl ?_
    refine R_p Wide.wide (P_pickt rfl rfl) rfl rfl ?_
    refine JL_nil ?_
    refine J_ifs rfl (fun hb17 => ?_) (fun hb17 => ?_)
    · refine J_skip ?_
      show J _ _ _ _ _ _
      refine J_block ?_
      refine J_region ?_
      refine R_p Wide.wide (P_move rfl) rfl rfl ?_
      refine R_p Wide.wide (P_sub rfl rfl (m : Int) (w64x (by omega) (by omega))) rfl rfl ?_
      refine R_p Wide.wide (P_assign rfl) rfl rfl ?_
      refine JL_nil ?_
      have hcc : c = 255 := (u8f c).1 (of_decide_eq_true hb17)
      exact ⟨⟨m, by omega, by rw [← hnb]; simp only [nB]; rw [if_pos (by rw [hget1, hcc])]⟩, by simp only; omega, Le.mk ⟨rfl, rfl, trivial⟩ rfl rfl fun _ hf => hf.1⟩
    · refine J_exit ?_
      show J _ _ _ _ _ _
      refine J_seq ?_
      have hcc : c ≠ 255 := fun e => of_decide_eq_false hb17 ((u8f c).2 e)
      have hnn : nB l (m + 1) = m + 1 := by simp only [nB]; rw [if_neg (by rw [hget1]; simpa using hcc)]
      obtain ⟨n, hnm⟩ : ∃ n, n = m + 1 := ⟨_, rfl⟩
      rw [← hnm] at hn hnb hnn ⊢
      refine J_rs ?_
      refine R_p Wide.wide (P_move rfl) rfl rfl ?_
      refine R_p Wide.wide (P_eqi rfl rfl) rfl rfl ?_
      refine JL_nil ?_
      refine J_ifs rfl (fun hb21 => ?_) (fun hb21 => ?_)
      · refine J_rs ?_
        refine R_p Wide.wide (P_assign rfl) rfl rfl ?_
        refine R_p Wide.wide (P_assign rfl) rfl rfl ?_
        refine JL_nil ?_
        refine J_ret ?_
        first
          | (exfalso; have h9 := of_decide_eq_true hb21; omega)
          | exact FinM.nil _ (.inl rfl) (R' := []) [] (List.Perm.refl _) (Reads.two rfl (RV.tmp rfl) (RV.tmp rfl)) fun h hf => ⟨rfl, .inl ⟨by rw [← hnb, show n = 0 by have := of_decide_eq_true hb21; omega]; rfl, rfl⟩⟩
      · refine J_skip ?_
        show J _ _ _ _ _ _
        refine J_rdform (fun h hf => hf.1) (fun e hn0 hx => (by exfalso; omega)) (fun bk off cap e hcap => ?_)
        subst e
        refine J_rs ?_
        refine R_bslice0 Wide.wide Try.underlying49 Try.type5 rfl (fun b22 => ?_)
        refine R_p Wide.wide (P_move rfl) rfl rfl ?_
        refine R_p Wide.wide (P_move rfl) rfl rfl ?_
        refine R_p Wide.wide (P_slice (l := 0) (h' := n) rfl Try.underlying49 Try.type5 (.inl ⟨rfl, rfl⟩) (.inr ⟨_, rfl⟩) (Nat.zero_le _) (by omega)) rfl rfl ?_
        refine R_appb Wide.wide 0 (xs := []) rfl rfl rfl Try.underlying49 Try.type5 rfl rfl rfl rfl (ys := l.take n) (Src.fact fun h hf j u hj => by
            rw [add_none]
            have e : (if cap = 0 then off else off + 0 * Try.t5.size) = off := by split <;> simp
            rw [e]
            refine hf.2 j u ?_
            rw [← hj]
            have h1 := (List.getElem?_eq_some_iff.1 hj).1
            simp only [cb, List.getElem?_map, List.getElem?_take]
            rw [if_pos (by simp [cb] at h1; omega)]) (by rw [List.length_take]; omega) (by simp only [List.length_nil, List.length_take]; omega) rfl (fun v26 => ?_)
        refine R_p Wide.wide (P_assign rfl) rfl rfl ?_
        refine JL_nil ?_
        have hlt9 : (([] ++ l.take n : List UInt8)).length = n := by rw [List.nil_append, List.length_take]; omega
        refine J_ownform 0 rfl (fun e h9 hx => absurd h9 (by rw [hlt9]; omega)) (fun g9 cap9 e h9 h10 h11 => ?_)
        subst e
        have he9 : 0 + (n - 1) * Try.t5.size = n - 1 := by show 0 + (n - 1) * 1 = n - 1; omega
        have hcell : (cb ([] ++ l.take n))[0 + (n - 1) * Try.t5.size]? = some (.int .u8 ((l.getD (n - 1) 0).toNat : Int)) := by
          rw [he9]
          have h1 : l[n - 1]? = some l[n - 1] := List.getElem?_eq_getElem _
          have h2 : n - 1 < n := by omega
          simp [cb, List.getElem?_take, h2, h1, List.getD]
        have hoff : 0 + (n - 1) * Try.t5.size < (cb ([] ++ l.take n)).length := by rw [he9, cb_length]; omega
        refine J_rs ?_
        refine R_p Wide.wide (P_move rfl) rfl rfl ?_
        refine R_p Wide.wide (P_move rfl) rfl rfl ?_
        refine R_p Wide.wide (P_sub rfl rfl ((n - 1 : Nat) : Int) (w64x (by omega) (by omega))) rfl rfl ?_
        refine R_p Wide.wide (P_indexAddr rfl rfl Try.underlying49 Try.type5 rfl (by omega)) rfl rfl ?_
        refine R_loado Wide.wide 0 rfl rfl _ Try.underlying5 rfl hcell rfl ?_
        refine R_p Wide.wide (P_add rfl rfl ((kb ((l.getD (n - 1) 0).toNat + 1)).toNat : Int) (kb_spec _)) rfl rfl ?_
        refine R_p Wide.wide (P_indexAddr rfl rfl Try.underlying49 Try.type5 rfl (by omega)) rfl rfl ?_
        refine R_storeo Wide.wide 0 rfl rfl rfl rfl Try.type5 rfl rfl hoff ?_
        refine JL_nil ?_
        refine J_rs ?_
        refine R_p Wide.wide (P_move rfl) rfl rfl ?_
        refine R_p Wide.wide (P_assign rfl) rfl rfl ?_
        refine R_p Wide.wide (P_assign rfl) rfl rfl ?_
        refine JL_nil ?_
        refine J_pubown [] [] rfl ?_
        refine J_ret ?_
        refine FinM.nil _ (.inl rfl) (R' := []) [] (List.Perm.refl _) (Reads.two rfl (RV.tmp rfl) (RV.tmp rfl)) fun h hf => ⟨rfl, .inr ⟨by rw [← hnb, hnn]; omega, _, rfl, ?_⟩⟩
        have h1 := Row.rd hf.2
        have h2 : nB l l.length = n := hnb.symm.trans hnn
        unfold Bs endL
        rw [h2, List.length_set, ← cb_set]
        rw [List.length_take, Nat.min_eq_left hn]
        rw [hlt9, he9] at h1
        rw [hlt9]
        exact h1
  · refine R_gn Wide.wide rfl rfl rfl rfl ?_
    refine R_gn Wide.wide rfl rfl rfl rfl ?_
    refine R_gn Wide.wide rfl rfl rfl rfl ?_
    refine R_gn Wide.wide rfl rfl rfl rfl ?_
    refine R_gn Wide.wide rfl rfl rfl rfl ?_
    refine R_p Wide.wide (P_pickf rfl rfl) rfl rfl ?_
    refine JL_nil ?_
    refine J_iff rfl ?_
    refine J_exit ?_
    show J _ _ _ _ _ _
    refine J_seq ?_
    have hn0 : n = 0 := by have := of_decide_eq_false hb10; omega
    refine J_rs ?_
    refine R_p Wide.wide (P_move rfl) rfl rfl ?_
    refine R_p Wide.wide (P_eqi rfl rfl) rfl rfl ?_
    refine JL_nil ?_
    refine J_ifs rfl (fun hb21 => ?_) (fun hb21 => ?_)
    · refine J_rs ?_
      refine R_p Wide.wide (P_assign rfl) rfl rfl ?_
      refine R_p Wide.wide (P_assign rfl) rfl rfl ?_
      refine JL_nil ?_
      refine J_ret ?_
      first
        | (exfalso; have h9 := of_decide_eq_true hb21; omega)
        | exact FinM.nil _ (.inl rfl) (R' := []) [] (List.Perm.refl _) (Reads.two rfl (RV.tmp rfl) (RV.tmp rfl)) fun h hf => ⟨rfl, .inl ⟨by rw [← hnb, show n = 0 by have := of_decide_eq_true hb21; omega]; rfl, rfl⟩⟩
    · refine J_skip ?_
      show J _ _ _ _ _ _
      exfalso
      have h9 := of_decide_eq_false hb21
      omega

end Go.Proofs.Ytgheodbcgddjlaa
