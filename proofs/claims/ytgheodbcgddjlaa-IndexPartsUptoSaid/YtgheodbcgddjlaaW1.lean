/- Walks: what is said of values and datoms. -/
import Derived.Test.YtgheodbcgddjlaaRows
import Derived.Test.YtgheodbcgddjlaaS
import Derived.Tactics
set_option linter.unusedVariables false
set_option linter.unusedSimpArgs false
namespace Go.Proofs.Ytgheodbcgddjlaa
open Go.RowKit Go.Grow Go.Hl Go.Ix
theorem w64 {c : Int} (h : -9223372036854775808 ≤ c ∧ c ≤ 9223372036854775807) : IntKind.i64.wrap c = c := by rw [IntKind.wrap_i64]; omega

set_option maxRecDepth 100000 in
theorem c55 {l : List UInt8} (hs : l.length ≤ 1000000) : FnC Try.prog 55 [.string (bs l)].toArray (fun _ => True) (fun v _ => v = .bool (wordB l)) := by
  refine fn_of_J Try.func55 rfl inferInstance 56 Try.ntmps55 (Nat.le_of_ble_eq_true rfl) fun W0 h0 => ?_
  refine J_rs ?_
  refine R_p Wide.wide (P_assign rfl) rfl rfl ?_
  refine JL_nil ?_
  refine J_seq ?_
  refine J_rs ?_
  refine R_p Wide.wide (P_move rfl) rfl rfl ?_
  refine R_strb Wide.wide rfl Try.underlying9 Try.underlying49 Try.underlying5 rfl (fun b6 cap6 hcap6 => ?_)
  refine R_p Wide.wide (P_len rfl rfl Try.underlying49) rfl rfl ?_
  refine R_p Wide.wide (P_move rfl) rfl rfl ?_
  refine JL_nil ?_
  refine J_block ?_
  refine J_round (ι := {i : Nat // i ≤ l.length ∧ wAll true l = wAll (decide (i = 0)) (l.drop i)}) (fun i => ⟨[(0, .string (bs l)), (6, .slice (some ⟨b6, 0, none⟩) l.length cap6), (7, .int .i64 l.length), (8, .int .i64 (i.1 : Nat))], [], fun h => True ∧ RdC h b6 0 (cb l), inferInstance, []⟩) (fun i => l.length - i.1) ⟨0, Nat.zero_le _, by rw [List.drop_zero]; rfl⟩ (Le.mk ⟨rfl, rfl, rfl, rfl, trivial⟩ rfl rfl fun _ h => h) ?_
  rintro ⟨i, hi, hw⟩
  dsimp only
  refine J_rs ?_
  refine R_p Wide.wide (P_lss rfl rfl) rfl rfl ?_
  refine JL_nil ?_
  refine J_seq ?_
  refine J_ifs rfl (fun hb9 => ?_) (fun hb9 => ?_)
  · refine J_skip ?_
    show J _ _ _ _ _ _
    refine J_seq ?_
    refine J_block ?_
    refine J_rs ?_
    have hlt : i < l.length := by have := of_decide_eq_true hb9; omega
    have hget : l[i * 1]? = some l[i] := by rw [Nat.mul_one]; exact List.getElem?_eq_getElem _
    have hcons : l.drop i = l[i] :: l.drop (i + 1) := List.drop_eq_getElem_cons _
    generalize l[i] = c at hget hcons
    refine R_p Wide.wide (P_move rfl) rfl rfl ?_
    refine R_p Wide.wide (P_indexAddr rfl rfl Try.underlying49 Try.type5 rfl (by omega)) rfl rfl ?_
    refine R_load Wide.wide rfl _ Try.underlying5 rfl rfl (fun h hf => hf.2 _ _ (cb_get hget)) ?_
    refine R_p Wide.wide (P_assign rfl) rfl rfl ?_
    refine R_p Wide.wide (P_assign rfl) rfl rfl ?_
    refine JL_nil ?_
    refine J_block ?_
    refine J_rs ?_
    refine R_p Wide.wide (P_move rfl) rfl rfl ?_
    refine R_p Wide.wide (P_geq rfl rfl) rfl rfl ?_
    refine R_p Wide.wide (P_move rfl) rfl rfl ?_
    refine R_gd Wide.wide rfl rfl rfl (fun hb16 => ?_) (fun hb16 => ?_)
    · refine R_p Wide.wide (P_move rfl) rfl rfl ?_
      refine R_gy rfl rfl ?_
      refine R_p Wide.wide (P_leq rfl rfl) rfl rfl ?_
      refine R_p Wide.wide (P_pickt rfl rfl) rfl rfl ?_
      refine R_p Wide.wide (P_assign rfl) rfl rfl ?_
      refine JL_nil ?_
      refine J_ifs rfl (fun hb13 => ?_) (fun hb13 => ?_)
      · refine J_skip ?_
        show J _ _ _ _ _ _
        refine J_region ?_
        refine R_p Wide.wide (P_add rfl rfl _ (w64 (by omega))) rfl rfl ?_
        refine R_p Wide.wide (P_move rfl) rfl rfl ?_
        refine JL_nil ?_
        exact ⟨⟨i + 1, by omega, by
            rw [hw, hcons]; simp only [wAll, okc]
            clear hcons hget hw
            (simp_all <;> intros <;> omega)⟩, by simp only; omega, Le.mk ⟨rfl, rfl, rfl, rfl, trivial⟩ rfl rfl fun _ h => h⟩
      · refine J_rs ?_
        refine R_p Wide.wide (P_move rfl) rfl rfl ?_
        refine R_p Wide.wide (P_gtr rfl rfl) rfl rfl ?_
        refine R_p Wide.wide (P_move rfl) rfl rfl ?_
        refine R_gd Wide.wide rfl rfl rfl (fun hb23 => ?_) (fun hb23 => ?_)
        · refine R_p Wide.wide (P_move rfl) rfl rfl ?_
          refine R_gy rfl rfl ?_
          refine R_p Wide.wide (P_geq rfl rfl) rfl rfl ?_
          refine R_gy rfl rfl ?_
          refine R_p Wide.wide (P_move rfl) rfl rfl ?_
          refine R_gd Wide.wide rfl rfl rfl (fun hb26 => ?_) (fun hb26 => ?_)
          · refine R_p Wide.wide (P_move rfl) rfl rfl ?_
            refine R_gy rfl rfl ?_
            refine R_p Wide.wide (P_leq rfl rfl) rfl rfl ?_
            refine R_gy rfl rfl ?_
            refine R_p Wide.wide (P_pickt rfl rfl) rfl rfl ?_
            refine R_gy rfl rfl ?_
            refine R_p Wide.wide (P_move rfl) rfl rfl ?_
            refine R_gd Wide.wide rfl rfl rfl (fun hb30 => ?_) (fun hb30 => ?_)
            · refine R_p Wide.wide (P_move rfl) rfl rfl ?_
              refine R_gy rfl rfl ?_
              refine R_p Wide.wide (P_eqi rfl rfl) rfl rfl ?_
              refine R_gy rfl rfl ?_
              refine R_p Wide.wide (P_pickf rfl rfl) rfl rfl ?_
              refine R_gy rfl rfl ?_
              refine R_p Wide.wide (P_move rfl) rfl rfl ?_
              refine R_gd Wide.wide rfl rfl rfl (fun hb34 => ?_) (fun hb34 => ?_)
              · refine R_p Wide.wide (P_move rfl) rfl rfl ?_
                refine R_gy rfl rfl ?_
                refine R_p Wide.wide (P_eqi rfl rfl) rfl rfl ?_
                refine R_gy rfl rfl ?_
                refine R_p Wide.wide (P_pickf rfl rfl) rfl rfl ?_
                refine R_gy rfl rfl ?_
                refine R_p Wide.wide (P_move rfl) rfl rfl ?_
                refine R_gd Wide.wide rfl rfl rfl (fun hb38 => ?_) (fun hb38 => ?_)
                · refine R_p Wide.wide (P_move rfl) rfl rfl ?_
                  refine R_gy rfl rfl ?_
                  refine R_p Wide.wide (P_eqi rfl rfl) rfl rfl ?_
                  refine R_gy rfl rfl ?_
                  refine R_p Wide.wide (P_pickf rfl rfl) rfl rfl ?_
                  refine R_gy rfl rfl ?_
                  refine R_p Wide.wide (P_move rfl) rfl rfl ?_
                  refine R_gd Wide.wide rfl rfl rfl (fun hb42 => ?_) (fun hb42 => ?_)
                  · refine R_p Wide.wide (P_move rfl) rfl rfl ?_
                    refine R_gy rfl rfl ?_
                    refine R_p Wide.wide (P_eqi rfl rfl) rfl rfl ?_
                    refine R_gy rfl rfl ?_
                    refine R_p Wide.wide (P_pickf rfl rfl) rfl rfl ?_
                    refine R_p Wide.wide (P_pickt rfl rfl) rfl rfl ?_
                    refine R_p Wide.wide (P_assign rfl) rfl rfl ?_
                    refine JL_nil ?_
                    refine J_ifs rfl (fun hb20 => ?_) (fun hb20 => ?_)
                    · refine J_skip ?_
                      show J _ _ _ _ _ _
                      refine J_region ?_
                      refine R_p Wide.wide (P_add rfl rfl _ (w64 (by omega))) rfl rfl ?_
                      refine R_p Wide.wide (P_move rfl) rfl rfl ?_
                      refine JL_nil ?_
                      exact ⟨⟨i + 1, by omega, by
                          rw [hw, hcons]; simp only [wAll, okc]
                          clear hcons hget hw
                          (simp_all <;> intros <;> omega)⟩, by simp only; omega, Le.mk ⟨rfl, rfl, rfl, rfl, trivial⟩ rfl rfl fun _ h => h⟩
                    · refine J_rs ?_
                      refine R_p Wide.wide (P_assign rfl) rfl rfl ?_
                      refine JL_nil ?_
                      refine J_ret ?_
                      refine Fin.ret _ (.inl rfl) rfl (Reads.one rfl (RV.tmp rfl)) fun _ _ => ?_
                      simp only [wordB, hw, hcons, wAll, okc]
                      clear hcons hget hw
                      simp_all <;> (try intros) <;> (try omega)
                  · refine R_gn Wide.wide rfl rfl rfl rfl ?_
                    refine R_gy rfl rfl ?_
                    refine R_p Wide.wide (P_pickt rfl rfl) rfl rfl ?_
                    refine R_p Wide.wide (P_pickt rfl rfl) rfl rfl ?_
                    refine R_p Wide.wide (P_assign rfl) rfl rfl ?_
                    refine JL_nil ?_
                    refine J_ift rfl ?_
                    refine J_skip ?_
                    show J _ _ _ _ _ _
                    refine J_region ?_
                    refine R_p Wide.wide (P_add rfl rfl _ (w64 (by omega))) rfl rfl ?_
                    refine R_p Wide.wide (P_move rfl) rfl rfl ?_
                    refine JL_nil ?_
                    exact ⟨⟨i + 1, by omega, by
                        rw [hw, hcons]; simp only [wAll, okc]
                        clear hcons hget hw
                        (simp_all <;> intros <;> omega)⟩, by simp only; omega, Le.mk ⟨rfl, rfl, rfl, rfl, trivial⟩ rfl rfl fun _ h => h⟩
                · refine R_gn Wide.wide rfl rfl rfl rfl ?_
                  refine R_gy rfl rfl ?_
                  refine R_p Wide.wide (P_pickt rfl rfl) rfl rfl ?_
                  refine R_gy rfl rfl ?_
                  refine R_p Wide.wide (P_move rfl) rfl rfl ?_
                  refine R_gn Wide.wide rfl rfl rfl rfl ?_
                  refine R_gn Wide.wide rfl rfl rfl rfl ?_
                  refine R_gy rfl rfl ?_
                  refine R_p Wide.wide (P_pickt rfl rfl) rfl rfl ?_
                  refine R_p Wide.wide (P_pickt rfl rfl) rfl rfl ?_
                  refine R_p Wide.wide (P_assign rfl) rfl rfl ?_
                  refine JL_nil ?_
                  refine J_ift rfl ?_
                  refine J_skip ?_
                  show J _ _ _ _ _ _
                  refine J_region ?_
                  refine R_p Wide.wide (P_add rfl rfl _ (w64 (by omega))) rfl rfl ?_
                  refine R_p Wide.wide (P_move rfl) rfl rfl ?_
                  refine JL_nil ?_
                  exact ⟨⟨i + 1, by omega, by
                      rw [hw, hcons]; simp only [wAll, okc]
                      clear hcons hget hw
                      (simp_all <;> intros <;> omega)⟩, by simp only; omega, Le.mk ⟨rfl, rfl, rfl, rfl, trivial⟩ rfl rfl fun _ h => h⟩
              · refine R_gn Wide.wide rfl rfl rfl rfl ?_
                refine R_gy rfl rfl ?_
                refine R_p Wide.wide (P_pickt rfl rfl) rfl rfl ?_
                refine R_gy rfl rfl ?_
                refine R_p Wide.wide (P_move rfl) rfl rfl ?_
                refine R_gn Wide.wide rfl rfl rfl rfl ?_
                refine R_gn Wide.wide rfl rfl rfl rfl ?_
                refine R_gy rfl rfl ?_
                refine R_p Wide.wide (P_pickt rfl rfl) rfl rfl ?_
                refine R_gy rfl rfl ?_
                refine R_p Wide.wide (P_move rfl) rfl rfl ?_
                refine R_gn Wide.wide rfl rfl rfl rfl ?_
                refine R_gn Wide.wide rfl rfl rfl rfl ?_
                refine R_gy rfl rfl ?_
                refine R_p Wide.wide (P_pickt rfl rfl) rfl rfl ?_
                refine R_p Wide.wide (P_pickt rfl rfl) rfl rfl ?_
                refine R_p Wide.wide (P_assign rfl) rfl rfl ?_
                refine JL_nil ?_
                refine J_ift rfl ?_
                refine J_skip ?_
                show J _ _ _ _ _ _
                refine J_region ?_
                refine R_p Wide.wide (P_add rfl rfl _ (w64 (by omega))) rfl rfl ?_
                refine R_p Wide.wide (P_move rfl) rfl rfl ?_
                refine JL_nil ?_
                exact ⟨⟨i + 1, by omega, by
                    rw [hw, hcons]; simp only [wAll, okc]
                    clear hcons hget hw
                    (simp_all <;> intros <;> omega)⟩, by simp only; omega, Le.mk ⟨rfl, rfl, rfl, rfl, trivial⟩ rfl rfl fun _ h => h⟩
            · refine R_gn Wide.wide rfl rfl rfl rfl ?_
              refine R_gy rfl rfl ?_
              refine R_p Wide.wide (P_pickt rfl rfl) rfl rfl ?_
              refine R_gy rfl rfl ?_
              refine R_p Wide.wide (P_move rfl) rfl rfl ?_
              refine R_gn Wide.wide rfl rfl rfl rfl ?_
              refine R_gn Wide.wide rfl rfl rfl rfl ?_
              refine R_gy rfl rfl ?_
              refine R_p Wide.wide (P_pickt rfl rfl) rfl rfl ?_
              refine R_gy rfl rfl ?_
              refine R_p Wide.wide (P_move rfl) rfl rfl ?_
              refine R_gn Wide.wide rfl rfl rfl rfl ?_
              refine R_gn Wide.wide rfl rfl rfl rfl ?_
              refine R_gy rfl rfl ?_
              refine R_p Wide.wide (P_pickt rfl rfl) rfl rfl ?_
              refine R_gy rfl rfl ?_
              refine R_p Wide.wide (P_move rfl) rfl rfl ?_
              refine R_gn Wide.wide rfl rfl rfl rfl ?_
              refine R_gn Wide.wide rfl rfl rfl rfl ?_
              refine R_gy rfl rfl ?_
              refine R_p Wide.wide (P_pickt rfl rfl) rfl rfl ?_
              refine R_p Wide.wide (P_pickt rfl rfl) rfl rfl ?_
              refine R_p Wide.wide (P_assign rfl) rfl rfl ?_
              refine JL_nil ?_
              refine J_ift rfl ?_
              refine J_skip ?_
              show J _ _ _ _ _ _
              refine J_region ?_
              refine R_p Wide.wide (P_add rfl rfl _ (w64 (by omega))) rfl rfl ?_
              refine R_p Wide.wide (P_move rfl) rfl rfl ?_
              refine JL_nil ?_
              exact ⟨⟨i + 1, by omega, by
                  rw [hw, hcons]; simp only [wAll, okc]
                  clear hcons hget hw
                  (simp_all <;> intros <;> omega)⟩, by simp only; omega, Le.mk ⟨rfl, rfl, rfl, rfl, trivial⟩ rfl rfl fun _ h => h⟩
          · refine R_gn Wide.wide rfl rfl rfl rfl ?_
            refine R_gy rfl rfl ?_
            refine R_p Wide.wide (P_pickf rfl rfl) rfl rfl ?_
            refine R_gy rfl rfl ?_
            refine R_p Wide.wide (P_move rfl) rfl rfl ?_
            refine R_gy rfl rfl ?_
            refine R_p Wide.wide (P_move rfl) rfl rfl ?_
            refine R_gy rfl rfl ?_
            refine R_p Wide.wide (P_eqi rfl rfl) rfl rfl ?_
            refine R_gy rfl rfl ?_
            refine R_p Wide.wide (P_pickf rfl rfl) rfl rfl ?_
            refine R_gy rfl rfl ?_
            refine R_p Wide.wide (P_move rfl) rfl rfl ?_
            refine R_gd Wide.wide rfl rfl rfl (fun hb34 => ?_) (fun hb34 => ?_)
            · refine R_p Wide.wide (P_move rfl) rfl rfl ?_
              refine R_gy rfl rfl ?_
              refine R_p Wide.wide (P_eqi rfl rfl) rfl rfl ?_
              refine R_gy rfl rfl ?_
              refine R_p Wide.wide (P_pickf rfl rfl) rfl rfl ?_
              refine R_gy rfl rfl ?_
              refine R_p Wide.wide (P_move rfl) rfl rfl ?_
              refine R_gd Wide.wide rfl rfl rfl (fun hb38 => ?_) (fun hb38 => ?_)
              · refine R_p Wide.wide (P_move rfl) rfl rfl ?_
                refine R_gy rfl rfl ?_
                refine R_p Wide.wide (P_eqi rfl rfl) rfl rfl ?_
                refine R_gy rfl rfl ?_
                refine R_p Wide.wide (P_pickf rfl rfl) rfl rfl ?_
                refine R_gy rfl rfl ?_
                refine R_p Wide.wide (P_move rfl) rfl rfl ?_
                refine R_gd Wide.wide rfl rfl rfl (fun hb42 => ?_) (fun hb42 => ?_)
                · refine R_p Wide.wide (P_move rfl) rfl rfl ?_
                  refine R_gy rfl rfl ?_
                  refine R_p Wide.wide (P_eqi rfl rfl) rfl rfl ?_
                  refine R_gy rfl rfl ?_
                  refine R_p Wide.wide (P_pickf rfl rfl) rfl rfl ?_
                  refine R_p Wide.wide (P_pickt rfl rfl) rfl rfl ?_
                  refine R_p Wide.wide (P_assign rfl) rfl rfl ?_
                  refine JL_nil ?_
                  refine J_ifs rfl (fun hb20 => ?_) (fun hb20 => ?_)
                  · refine J_skip ?_
                    show J _ _ _ _ _ _
                    refine J_region ?_
                    refine R_p Wide.wide (P_add rfl rfl _ (w64 (by omega))) rfl rfl ?_
                    refine R_p Wide.wide (P_move rfl) rfl rfl ?_
                    refine JL_nil ?_
                    exact ⟨⟨i + 1, by omega, by
                        rw [hw, hcons]; simp only [wAll, okc]
                        clear hcons hget hw
                        (simp_all <;> intros <;> omega)⟩, by simp only; omega, Le.mk ⟨rfl, rfl, rfl, rfl, trivial⟩ rfl rfl fun _ h => h⟩
                  · refine J_rs ?_
                    refine R_p Wide.wide (P_assign rfl) rfl rfl ?_
                    refine JL_nil ?_
                    refine J_ret ?_
                    refine Fin.ret _ (.inl rfl) rfl (Reads.one rfl (RV.tmp rfl)) fun _ _ => ?_
                    simp only [wordB, hw, hcons, wAll, okc]
                    clear hcons hget hw
                    simp_all <;> (try intros) <;> (try omega)
                · refine R_gn Wide.wide rfl rfl rfl rfl ?_
                  refine R_gy rfl rfl ?_
                  refine R_p Wide.wide (P_pickt rfl rfl) rfl rfl ?_
                  refine R_p Wide.wide (P_pickt rfl rfl) rfl rfl ?_
                  refine R_p Wide.wide (P_assign rfl) rfl rfl ?_
                  refine JL_nil ?_
                  refine J_ift rfl ?_
                  refine J_skip ?_
                  show J _ _ _ _ _ _
                  refine J_region ?_
                  refine R_p Wide.wide (P_add rfl rfl _ (w64 (by omega))) rfl rfl ?_
                  refine R_p Wide.wide (P_move rfl) rfl rfl ?_
                  refine JL_nil ?_
                  exact ⟨⟨i + 1, by omega, by
                      rw [hw, hcons]; simp only [wAll, okc]
                      clear hcons hget hw
                      (simp_all <;> intros <;> omega)⟩, by simp only; omega, Le.mk ⟨rfl, rfl, rfl, rfl, trivial⟩ rfl rfl fun _ h => h⟩
              · refine R_gn Wide.wide rfl rfl rfl rfl ?_
                refine R_gy rfl rfl ?_
                refine R_p Wide.wide (P_pickt rfl rfl) rfl rfl ?_
                refine R_gy rfl rfl ?_
                refine R_p Wide.wide (P_move rfl) rfl rfl ?_
                refine R_gn Wide.wide rfl rfl rfl rfl ?_
                refine R_gn Wide.wide rfl rfl rfl rfl ?_
                refine R_gy rfl rfl ?_
                refine R_p Wide.wide (P_pickt rfl rfl) rfl rfl ?_
                refine R_p Wide.wide (P_pickt rfl rfl) rfl rfl ?_
                refine R_p Wide.wide (P_assign rfl) rfl rfl ?_
                refine JL_nil ?_
                refine J_ift rfl ?_
                refine J_skip ?_
                show J _ _ _ _ _ _
                refine J_region ?_
                refine R_p Wide.wide (P_add rfl rfl _ (w64 (by omega))) rfl rfl ?_
                refine R_p Wide.wide (P_move rfl) rfl rfl ?_
                refine JL_nil ?_
                exact ⟨⟨i + 1, by omega, by
                    rw [hw, hcons]; simp only [wAll, okc]
                    clear hcons hget hw
                    (simp_all <;> intros <;> omega)⟩, by simp only; omega, Le.mk ⟨rfl, rfl, rfl, rfl, trivial⟩ rfl rfl fun _ h => h⟩
            · refine R_gn Wide.wide rfl rfl rfl rfl ?_
              refine R_gy rfl rfl ?_
              refine R_p Wide.wide (P_pickt rfl rfl) rfl rfl ?_
              refine R_gy rfl rfl ?_
              refine R_p Wide.wide (P_move rfl) rfl rfl ?_
              refine R_gn Wide.wide rfl rfl rfl rfl ?_
              refine R_gn Wide.wide rfl rfl rfl rfl ?_
              refine R_gy rfl rfl ?_
              refine R_p Wide.wide (P_pickt rfl rfl) rfl rfl ?_
              refine R_gy rfl rfl ?_
              refine R_p Wide.wide (P_move rfl) rfl rfl ?_
              refine R_gn Wide.wide rfl rfl rfl rfl ?_
              refine R_gn Wide.wide rfl rfl rfl rfl ?_
              refine R_gy rfl rfl ?_
              refine R_p Wide.wide (P_pickt rfl rfl) rfl rfl ?_
              refine R_p Wide.wide (P_pickt rfl rfl) rfl rfl ?_
              refine R_p Wide.wide (P_assign rfl) rfl rfl ?_
              refine JL_nil ?_
              refine J_ift rfl ?_
              refine J_skip ?_
              show J _ _ _ _ _ _
              refine J_region ?_
              refine R_p Wide.wide (P_add rfl rfl _ (w64 (by omega))) rfl rfl ?_
              refine R_p Wide.wide (P_move rfl) rfl rfl ?_
              refine JL_nil ?_
              exact ⟨⟨i + 1, by omega, by
                  rw [hw, hcons]; simp only [wAll, okc]
                  clear hcons hget hw
                  (simp_all <;> intros <;> omega)⟩, by simp only; omega, Le.mk ⟨rfl, rfl, rfl, rfl, trivial⟩ rfl rfl fun _ h => h⟩
        · refine R_gn Wide.wide rfl rfl rfl rfl ?_
          refine R_gn Wide.wide rfl rfl rfl rfl ?_
          refine R_gu Wide.wide rfl rfl rfl ?_
          refine R_gu Wide.wide rfl rfl rfl ?_
          refine R_gn Wide.wide rfl rfl rfl rfl ?_
          refine R_gn Wide.wide rfl rfl rfl rfl ?_
          refine R_gu Wide.wide rfl rfl rfl ?_
          refine R_gu Wide.wide rfl rfl rfl ?_
          refine R_gn Wide.wide rfl rfl rfl rfl ?_
          refine R_gn Wide.wide rfl rfl rfl rfl ?_
          refine R_gu Wide.wide rfl rfl rfl ?_
          refine R_gu Wide.wide rfl rfl rfl ?_
          refine R_gn Wide.wide rfl rfl rfl rfl ?_
          refine R_gn Wide.wide rfl rfl rfl rfl ?_
          refine R_gu Wide.wide rfl rfl rfl ?_
          refine R_gu Wide.wide rfl rfl rfl ?_
          refine R_gn Wide.wide rfl rfl rfl rfl ?_
          refine R_gn Wide.wide rfl rfl rfl rfl ?_
          refine R_gu Wide.wide rfl rfl rfl ?_
          refine R_gu Wide.wide rfl rfl rfl ?_
          refine R_gn Wide.wide rfl rfl rfl rfl ?_
          refine R_p Wide.wide (P_pickf rfl rfl) rfl rfl ?_
          refine R_p Wide.wide (P_assign rfl) rfl rfl ?_
          refine JL_nil ?_
          refine J_iff rfl ?_
          refine J_rs ?_
          refine R_p Wide.wide (P_assign rfl) rfl rfl ?_
          refine JL_nil ?_
          refine J_ret ?_
          refine Fin.ret _ (.inl rfl) rfl (Reads.one rfl (RV.tmp rfl)) fun _ _ => ?_
          simp only [wordB, hw, hcons, wAll, okc]
          clear hcons hget hw
          simp_all <;> (try intros) <;> (try omega)
    · refine R_gn Wide.wide rfl rfl rfl rfl ?_
      refine R_p Wide.wide (P_pickf rfl rfl) rfl rfl ?_
      refine R_p Wide.wide (P_assign rfl) rfl rfl ?_
      refine JL_nil ?_
      refine J_iff rfl ?_
      refine J_rs ?_
      refine R_p Wide.wide (P_move rfl) rfl rfl ?_
      refine R_p Wide.wide (P_gtr rfl rfl) rfl rfl ?_
      refine R_p Wide.wide (P_move rfl) rfl rfl ?_
      refine R_gd Wide.wide rfl rfl rfl (fun hb23 => ?_) (fun hb23 => ?_)
      · refine R_p Wide.wide (P_move rfl) rfl rfl ?_
        refine R_gy rfl rfl ?_
        refine R_p Wide.wide (P_geq rfl rfl) rfl rfl ?_
        refine R_gy rfl rfl ?_
        refine R_p Wide.wide (P_move rfl) rfl rfl ?_
        refine R_gd Wide.wide rfl rfl rfl (fun hb26 => ?_) (fun hb26 => ?_)
        · refine R_p Wide.wide (P_move rfl) rfl rfl ?_
          refine R_gy rfl rfl ?_
          refine R_p Wide.wide (P_leq rfl rfl) rfl rfl ?_
          refine R_gy rfl rfl ?_
          refine R_p Wide.wide (P_pickt rfl rfl) rfl rfl ?_
          refine R_gy rfl rfl ?_
          refine R_p Wide.wide (P_move rfl) rfl rfl ?_
          refine R_gd Wide.wide rfl rfl rfl (fun hb30 => ?_) (fun hb30 => ?_)
          · refine R_p Wide.wide (P_move rfl) rfl rfl ?_
            refine R_gy rfl rfl ?_
            refine R_p Wide.wide (P_eqi rfl rfl) rfl rfl ?_
            refine R_gy rfl rfl ?_
            refine R_p Wide.wide (P_pickf rfl rfl) rfl rfl ?_
            refine R_gy rfl rfl ?_
            refine R_p Wide.wide (P_move rfl) rfl rfl ?_
            refine R_gd Wide.wide rfl rfl rfl (fun hb34 => ?_) (fun hb34 => ?_)
            · refine R_p Wide.wide (P_move rfl) rfl rfl ?_
              refine R_gy rfl rfl ?_
              refine R_p Wide.wide (P_eqi rfl rfl) rfl rfl ?_
              refine R_gy rfl rfl ?_
              refine R_p Wide.wide (P_pickf rfl rfl) rfl rfl ?_
              refine R_gy rfl rfl ?_
              refine R_p Wide.wide (P_move rfl) rfl rfl ?_
              refine R_gd Wide.wide rfl rfl rfl (fun hb38 => ?_) (fun hb38 => ?_)
              · refine R_p Wide.wide (P_move rfl) rfl rfl ?_
                refine R_gy rfl rfl ?_
                refine R_p Wide.wide (P_eqi rfl rfl) rfl rfl ?_
                refine R_gy rfl rfl ?_
                refine R_p Wide.wide (P_pickf rfl rfl) rfl rfl ?_
                refine R_gy rfl rfl ?_
                refine R_p Wide.wide (P_move rfl) rfl rfl ?_
                refine R_gd Wide.wide rfl rfl rfl (fun hb42 => ?_) (fun hb42 => ?_)
                · refine R_p Wide.wide (P_move rfl) rfl rfl ?_
                  refine R_gy rfl rfl ?_
                  refine R_p Wide.wide (P_eqi rfl rfl) rfl rfl ?_
                  refine R_gy rfl rfl ?_
                  refine R_p Wide.wide (P_pickf rfl rfl) rfl rfl ?_
                  refine R_p Wide.wide (P_pickt rfl rfl) rfl rfl ?_
                  refine R_p Wide.wide (P_assign rfl) rfl rfl ?_
                  refine JL_nil ?_
                  refine J_ifs rfl (fun hb20 => ?_) (fun hb20 => ?_)
                  · refine J_skip ?_
                    show J _ _ _ _ _ _
                    refine J_region ?_
                    refine R_p Wide.wide (P_add rfl rfl _ (w64 (by omega))) rfl rfl ?_
                    refine R_p Wide.wide (P_move rfl) rfl rfl ?_
                    refine JL_nil ?_
                    exact ⟨⟨i + 1, by omega, by
                        rw [hw, hcons]; simp only [wAll, okc]
                        clear hcons hget hw
                        (simp_all <;> intros <;> omega)⟩, by simp only; omega, Le.mk ⟨rfl, rfl, rfl, rfl, trivial⟩ rfl rfl fun _ h => h⟩
                  · refine J_rs ?_
                    refine R_p Wide.wide (P_assign rfl) rfl rfl ?_
                    refine JL_nil ?_
                    refine J_ret ?_
                    refine Fin.ret _ (.inl rfl) rfl (Reads.one rfl (RV.tmp rfl)) fun _ _ => ?_
                    simp only [wordB, hw, hcons, wAll, okc]
                    clear hcons hget hw
                    simp_all <;> (try intros) <;> (try omega)
                · refine R_gn Wide.wide rfl rfl rfl rfl ?_
                  refine R_gy rfl rfl ?_
                  refine R_p Wide.wide (P_pickt rfl rfl) rfl rfl ?_
                  refine R_p Wide.wide (P_pickt rfl rfl) rfl rfl ?_
                  refine R_p Wide.wide (P_assign rfl) rfl rfl ?_
                  refine JL_nil ?_
                  refine J_ift rfl ?_
                  refine J_skip ?_
                  show J _ _ _ _ _ _
                  refine J_region ?_
                  refine R_p Wide.wide (P_add rfl rfl _ (w64 (by omega))) rfl rfl ?_
                  refine R_p Wide.wide (P_move rfl) rfl rfl ?_
                  refine JL_nil ?_
                  exact ⟨⟨i + 1, by omega, by
                      rw [hw, hcons]; simp only [wAll, okc]
                      clear hcons hget hw
                      (simp_all <;> intros <;> omega)⟩, by simp only; omega, Le.mk ⟨rfl, rfl, rfl, rfl, trivial⟩ rfl rfl fun _ h => h⟩
              · refine R_gn Wide.wide rfl rfl rfl rfl ?_
                refine R_gy rfl rfl ?_
                refine R_p Wide.wide (P_pickt rfl rfl) rfl rfl ?_
                refine R_gy rfl rfl ?_
                refine R_p Wide.wide (P_move rfl) rfl rfl ?_
                refine R_gn Wide.wide rfl rfl rfl rfl ?_
                refine R_gn Wide.wide rfl rfl rfl rfl ?_
                refine R_gy rfl rfl ?_
                refine R_p Wide.wide (P_pickt rfl rfl) rfl rfl ?_
                refine R_p Wide.wide (P_pickt rfl rfl) rfl rfl ?_
                refine R_p Wide.wide (P_assign rfl) rfl rfl ?_
                refine JL_nil ?_
                refine J_ift rfl ?_
                refine J_skip ?_
                show J _ _ _ _ _ _
                refine J_region ?_
                refine R_p Wide.wide (P_add rfl rfl _ (w64 (by omega))) rfl rfl ?_
                refine R_p Wide.wide (P_move rfl) rfl rfl ?_
                refine JL_nil ?_
                exact ⟨⟨i + 1, by omega, by
                    rw [hw, hcons]; simp only [wAll, okc]
                    clear hcons hget hw
                    (simp_all <;> intros <;> omega)⟩, by simp only; omega, Le.mk ⟨rfl, rfl, rfl, rfl, trivial⟩ rfl rfl fun _ h => h⟩
            · refine R_gn Wide.wide rfl rfl rfl rfl ?_
              refine R_gy rfl rfl ?_
              refine R_p Wide.wide (P_pickt rfl rfl) rfl rfl ?_
              refine R_gy rfl rfl ?_
              refine R_p Wide.wide (P_move rfl) rfl rfl ?_
              refine R_gn Wide.wide rfl rfl rfl rfl ?_
              refine R_gn Wide.wide rfl rfl rfl rfl ?_
              refine R_gy rfl rfl ?_
              refine R_p Wide.wide (P_pickt rfl rfl) rfl rfl ?_
              refine R_gy rfl rfl ?_
              refine R_p Wide.wide (P_move rfl) rfl rfl ?_
              refine R_gn Wide.wide rfl rfl rfl rfl ?_
              refine R_gn Wide.wide rfl rfl rfl rfl ?_
              refine R_gy rfl rfl ?_
              refine R_p Wide.wide (P_pickt rfl rfl) rfl rfl ?_
              refine R_p Wide.wide (P_pickt rfl rfl) rfl rfl ?_
              refine R_p Wide.wide (P_assign rfl) rfl rfl ?_
              refine JL_nil ?_
              refine J_ift rfl ?_
              refine J_skip ?_
              show J _ _ _ _ _ _
              refine J_region ?_
              refine R_p Wide.wide (P_add rfl rfl _ (w64 (by omega))) rfl rfl ?_
              refine R_p Wide.wide (P_move rfl) rfl rfl ?_
              refine JL_nil ?_
              exact ⟨⟨i + 1, by omega, by
                  rw [hw, hcons]; simp only [wAll, okc]
                  clear hcons hget hw
                  (simp_all <;> intros <;> omega)⟩, by simp only; omega, Le.mk ⟨rfl, rfl, rfl, rfl, trivial⟩ rfl rfl fun _ h => h⟩
          · refine R_gn Wide.wide rfl rfl rfl rfl ?_
            refine R_gy rfl rfl ?_
            refine R_p Wide.wide (P_pickt rfl rfl) rfl rfl ?_
            refine R_gy rfl rfl ?_
            refine R_p Wide.wide (P_move rfl) rfl rfl ?_
            refine R_gn Wide.wide rfl rfl rfl rfl ?_
            refine R_gn Wide.wide rfl rfl rfl rfl ?_
            refine R_gy rfl rfl ?_
            refine R_p Wide.wide (P_pickt rfl rfl) rfl rfl ?_
            refine R_gy rfl rfl ?_
            refine R_p Wide.wide (P_move rfl) rfl rfl ?_
            refine R_gn Wide.wide rfl rfl rfl rfl ?_
            refine R_gn Wide.wide rfl rfl rfl rfl ?_
            refine R_gy rfl rfl ?_
            refine R_p Wide.wide (P_pickt rfl rfl) rfl rfl ?_
            refine R_gy rfl rfl ?_
            refine R_p Wide.wide (P_move rfl) rfl rfl ?_
            refine R_gn Wide.wide rfl rfl rfl rfl ?_
            refine R_gn Wide.wide rfl rfl rfl rfl ?_
            refine R_gy rfl rfl ?_
            refine R_p Wide.wide (P_pickt rfl rfl) rfl rfl ?_
            refine R_p Wide.wide (P_pickt rfl rfl) rfl rfl ?_
            refine R_p Wide.wide (P_assign rfl) rfl rfl ?_
            refine JL_nil ?_
            refine J_ift rfl ?_
            refine J_skip ?_
            show J _ _ _ _ _ _
            refine J_region ?_
            refine R_p Wide.wide (P_add rfl rfl _ (w64 (by omega))) rfl rfl ?_
            refine R_p Wide.wide (P_move rfl) rfl rfl ?_
            refine JL_nil ?_
            exact ⟨⟨i + 1, by omega, by
                rw [hw, hcons]; simp only [wAll, okc]
                clear hcons hget hw
                (simp_all <;> intros <;> omega)⟩, by simp only; omega, Le.mk ⟨rfl, rfl, rfl, rfl, trivial⟩ rfl rfl fun _ h => h⟩
        · refine R_gn Wide.wide rfl rfl rfl rfl ?_
          refine R_gy rfl rfl ?_
          refine R_p Wide.wide (P_pickf rfl rfl) rfl rfl ?_
          refine R_gy rfl rfl ?_
          refine R_p Wide.wide (P_move rfl) rfl rfl ?_
          refine R_gy rfl rfl ?_
          refine R_p Wide.wide (P_move rfl) rfl rfl ?_
          refine R_gy rfl rfl ?_
          refine R_p Wide.wide (P_eqi rfl rfl) rfl rfl ?_
          refine R_gy rfl rfl ?_
          refine R_p Wide.wide (P_pickf rfl rfl) rfl rfl ?_
          refine R_gy rfl rfl ?_
          refine R_p Wide.wide (P_move rfl) rfl rfl ?_
          refine R_gd Wide.wide rfl rfl rfl (fun hb34 => ?_) (fun hb34 => ?_)
          · refine R_p Wide.wide (P_move rfl) rfl rfl ?_
            refine R_gy rfl rfl ?_
            refine R_p Wide.wide (P_eqi rfl rfl) rfl rfl ?_
            refine R_gy rfl rfl ?_
            refine R_p Wide.wide (P_pickf rfl rfl) rfl rfl ?_
            refine R_gy rfl rfl ?_
            refine R_p Wide.wide (P_move rfl) rfl rfl ?_
            refine R_gd Wide.wide rfl rfl rfl (fun hb38 => ?_) (fun hb38 => ?_)
            · refine R_p Wide.wide (P_move rfl) rfl rfl ?_
              refine R_gy rfl rfl ?_
              refine R_p Wide.wide (P_eqi rfl rfl) rfl rfl ?_
              refine R_gy rfl rfl ?_
              refine R_p Wide.wide (P_pickf rfl rfl) rfl rfl ?_
              refine R_gy rfl rfl ?_
              refine R_p Wide.wide (P_move rfl) rfl rfl ?_
              refine R_gd Wide.wide rfl rfl rfl (fun hb42 => ?_) (fun hb42 => ?_)
              · refine R_p Wide.wide (P_move rfl) rfl rfl ?_
                refine R_gy rfl rfl ?_
                refine R_p Wide.wide (P_eqi rfl rfl) rfl rfl ?_
                refine R_gy rfl rfl ?_
                refine R_p Wide.wide (P_pickf rfl rfl) rfl rfl ?_
                refine R_p Wide.wide (P_pickt rfl rfl) rfl rfl ?_
                refine R_p Wide.wide (P_assign rfl) rfl rfl ?_
                refine JL_nil ?_
                refine J_ifs rfl (fun hb20 => ?_) (fun hb20 => ?_)
                · refine J_skip ?_
                  show J _ _ _ _ _ _
                  refine J_region ?_
                  refine R_p Wide.wide (P_add rfl rfl _ (w64 (by omega))) rfl rfl ?_
                  refine R_p Wide.wide (P_move rfl) rfl rfl ?_
                  refine JL_nil ?_
                  exact ⟨⟨i + 1, by omega, by
                      rw [hw, hcons]; simp only [wAll, okc]
                      clear hcons hget hw
                      (simp_all <;> intros <;> omega)⟩, by simp only; omega, Le.mk ⟨rfl, rfl, rfl, rfl, trivial⟩ rfl rfl fun _ h => h⟩
                · refine J_rs ?_
                  refine R_p Wide.wide (P_assign rfl) rfl rfl ?_
                  refine JL_nil ?_
                  refine J_ret ?_
                  refine Fin.ret _ (.inl rfl) rfl (Reads.one rfl (RV.tmp rfl)) fun _ _ => ?_
                  simp only [wordB, hw, hcons, wAll, okc]
                  clear hcons hget hw
                  simp_all <;> (try intros) <;> (try omega)
              · refine R_gn Wide.wide rfl rfl rfl rfl ?_
                refine R_gy rfl rfl ?_
                refine R_p Wide.wide (P_pickt rfl rfl) rfl rfl ?_
                refine R_p Wide.wide (P_pickt rfl rfl) rfl rfl ?_
                refine R_p Wide.wide (P_assign rfl) rfl rfl ?_
                refine JL_nil ?_
                refine J_ift rfl ?_
                refine J_skip ?_
                show J _ _ _ _ _ _
                refine J_region ?_
                refine R_p Wide.wide (P_add rfl rfl _ (w64 (by omega))) rfl rfl ?_
                refine R_p Wide.wide (P_move rfl) rfl rfl ?_
                refine JL_nil ?_
                exact ⟨⟨i + 1, by omega, by
                    rw [hw, hcons]; simp only [wAll, okc]
                    clear hcons hget hw
                    (simp_all <;> intros <;> omega)⟩, by simp only; omega, Le.mk ⟨rfl, rfl, rfl, rfl, trivial⟩ rfl rfl fun _ h => h⟩
            · refine R_gn Wide.wide rfl rfl rfl rfl ?_
              refine R_gy rfl rfl ?_
              refine R_p Wide.wide (P_pickt rfl rfl) rfl rfl ?_
              refine R_gy rfl rfl ?_
              refine R_p Wide.wide (P_move rfl) rfl rfl ?_
              refine R_gn Wide.wide rfl rfl rfl rfl ?_
              refine R_gn Wide.wide rfl rfl rfl rfl ?_
              refine R_gy rfl rfl ?_
              refine R_p Wide.wide (P_pickt rfl rfl) rfl rfl ?_
              refine R_p Wide.wide (P_pickt rfl rfl) rfl rfl ?_
              refine R_p Wide.wide (P_assign rfl) rfl rfl ?_
              refine JL_nil ?_
              refine J_ift rfl ?_
              refine J_skip ?_
              show J _ _ _ _ _ _
              refine J_region ?_
              refine R_p Wide.wide (P_add rfl rfl _ (w64 (by omega))) rfl rfl ?_
              refine R_p Wide.wide (P_move rfl) rfl rfl ?_
              refine JL_nil ?_
              exact ⟨⟨i + 1, by omega, by
                  rw [hw, hcons]; simp only [wAll, okc]
                  clear hcons hget hw
                  (simp_all <;> intros <;> omega)⟩, by simp only; omega, Le.mk ⟨rfl, rfl, rfl, rfl, trivial⟩ rfl rfl fun _ h => h⟩
          · refine R_gn Wide.wide rfl rfl rfl rfl ?_
            refine R_gy rfl rfl ?_
            refine R_p Wide.wide (P_pickt rfl rfl) rfl rfl ?_
            refine R_gy rfl rfl ?_
            refine R_p Wide.wide (P_move rfl) rfl rfl ?_
            refine R_gn Wide.wide rfl rfl rfl rfl ?_
            refine R_gn Wide.wide rfl rfl rfl rfl ?_
            refine R_gy rfl rfl ?_
            refine R_p Wide.wide (P_pickt rfl rfl) rfl rfl ?_
            refine R_gy rfl rfl ?_
            refine R_p Wide.wide (P_move rfl) rfl rfl ?_
            refine R_gn Wide.wide rfl rfl rfl rfl ?_
            refine R_gn Wide.wide rfl rfl rfl rfl ?_
            refine R_gy rfl rfl ?_
            refine R_p Wide.wide (P_pickt rfl rfl) rfl rfl ?_
            refine R_p Wide.wide (P_pickt rfl rfl) rfl rfl ?_
            refine R_p Wide.wide (P_assign rfl) rfl rfl ?_
            refine JL_nil ?_
            refine J_ift rfl ?_
            refine J_skip ?_
            show J _ _ _ _ _ _
            refine J_region ?_
            refine R_p Wide.wide (P_add rfl rfl _ (w64 (by omega))) rfl rfl ?_
            refine R_p Wide.wide (P_move rfl) rfl rfl ?_
            refine JL_nil ?_
            exact ⟨⟨i + 1, by omega, by
                rw [hw, hcons]; simp only [wAll, okc]
                clear hcons hget hw
                (simp_all <;> intros <;> omega)⟩, by simp only; omega, Le.mk ⟨rfl, rfl, rfl, rfl, trivial⟩ rfl rfl fun _ h => h⟩
      · refine R_gn Wide.wide rfl rfl rfl rfl ?_
        refine R_gn Wide.wide rfl rfl rfl rfl ?_
        refine R_gu Wide.wide rfl rfl rfl ?_
        refine R_gu Wide.wide rfl rfl rfl ?_
        refine R_gn Wide.wide rfl rfl rfl rfl ?_
        refine R_gn Wide.wide rfl rfl rfl rfl ?_
        refine R_gu Wide.wide rfl rfl rfl ?_
        refine R_gu Wide.wide rfl rfl rfl ?_
        refine R_gn Wide.wide rfl rfl rfl rfl ?_
        refine R_gn Wide.wide rfl rfl rfl rfl ?_
        refine R_gu Wide.wide rfl rfl rfl ?_
        refine R_gu Wide.wide rfl rfl rfl ?_
        refine R_gn Wide.wide rfl rfl rfl rfl ?_
        refine R_gn Wide.wide rfl rfl rfl rfl ?_
        refine R_gu Wide.wide rfl rfl rfl ?_
        refine R_gu Wide.wide rfl rfl rfl ?_
        refine R_gn Wide.wide rfl rfl rfl rfl ?_
        refine R_gn Wide.wide rfl rfl rfl rfl ?_
        refine R_gu Wide.wide rfl rfl rfl ?_
        refine R_gu Wide.wide rfl rfl rfl ?_
        refine R_gn Wide.wide rfl rfl rfl rfl ?_
        refine R_p Wide.wide (P_pickf rfl rfl) rfl rfl ?_
        refine R_p Wide.wide (P_assign rfl) rfl rfl ?_
        refine JL_nil ?_
        refine J_iff rfl ?_
        refine J_rs ?_
        refine R_p Wide.wide (P_assign rfl) rfl rfl ?_
        refine JL_nil ?_
        refine J_ret ?_
        refine Fin.ret _ (.inl rfl) rfl (Reads.one rfl (RV.tmp rfl)) fun _ _ => ?_
        simp only [wordB, hw, hcons, wAll, okc]
        clear hcons hget hw
        simp_all <;> (try intros) <;> (try omega)
  · refine J_exit ?_
    show J _ _ _ _ _ _
    refine J_rs ?_
    refine R_p Wide.wide (P_move rfl) rfl rfl ?_
    refine R_p Wide.wide (P_lenl rfl rfl Try.underlying9) rfl rfl ?_
    refine R_p Wide.wide (P_geq rfl rfl) rfl rfl ?_
    refine R_p Wide.wide (P_move rfl) rfl rfl ?_
    refine R_gd Wide.wide rfl rfl rfl (fun hb51 => ?_) (fun hb51 => ?_)
    · refine R_p Wide.wide (P_move rfl) rfl rfl ?_
      refine R_gy rfl rfl ?_
      refine R_p Wide.wide (P_lenl rfl rfl Try.underlying9) rfl rfl ?_
      refine R_gy rfl rfl ?_
      refine R_p Wide.wide (P_leq rfl rfl) rfl rfl ?_
      refine R_p Wide.wide (P_pickt rfl rfl) rfl rfl ?_
      refine R_p Wide.wide (P_assign rfl) rfl rfl ?_
      refine JL_nil ?_
      refine J_ret ?_
      refine Fin.ret _ (.inl rfl) rfl (Reads.one rfl (RV.tmp rfl)) fun _ _ => ?_
      have e : i = l.length := by have := of_decide_eq_false hb9; omega
      simp only [wordB, hw, e]
      simp_all [wAll] <;> (try intros) <;> (try omega)
    · refine R_gn Wide.wide rfl rfl rfl rfl ?_
      refine R_gn Wide.wide rfl rfl rfl rfl ?_
      refine R_p Wide.wide (P_pickf rfl rfl) rfl rfl ?_
      refine R_p Wide.wide (P_assign rfl) rfl rfl ?_
      refine JL_nil ?_
      refine J_ret ?_
      refine Fin.ret _ (.inl rfl) rfl (Reads.one rfl (RV.tmp rfl)) fun _ _ => ?_
      have e : i = l.length := by have := of_decide_eq_false hb9; omega
      simp only [wordB, hw, e]
      simp_all [wAll] <;> (try intros) <;> (try omega)

set_option maxRecDepth 100000 in
theorem c47 {v : V} (hs : v.s.length ≤ 1000000) : FnC Try.prog 47 [.agg v.cells.toArray].toArray (fun _ => True) (fun u _ => u = .bool (mayV v)) := by
  refine fn_of_J Try.func47 rfl inferInstance 58 Try.ntmps47 (Nat.le_of_ble_eq_true rfl) fun W0 h0 => ?_
  refine J_rs ?_
  refine R_box Wide.wide rfl rfl rfl (fun b1 => ?_)
  refine R_p Wide.wide (P_assign rfl) rfl rfl ?_
  refine JL_nil ?_
  refine J_seq ?_
  refine J_rs ?_
  refine R_p Wide.wide (P_fieldAddr rfl Try.underlying36 rfl Try.type3 rfl rfl) rfl rfl ?_
  refine R_loadb Wide.wide 0 rfl rfl _ Try.underlying3 rfl rfl rfl ?_
  refine JL_nil ?_
  refine J_block ?_
  refine J_seq ?_
  refine J_block ?_
  refine J_seq ?_
  refine J_block ?_
  refine J_seq ?_
  refine J_block ?_
  refine J_seq ?_
  refine J_block ?_
  refine J_seq ?_
  refine J_block ?_
  refine J_seq ?_
  refine J_seq ?_
  refine J_rs ?_
  refine R_p Wide.wide (P_eqi rfl rfl) rfl rfl ?_
  refine R_p Wide.wide (P_assign rfl) rfl rfl ?_
  refine JL_nil ?_
  refine J_ifs rfl (fun hb5 => ?_) (fun hb5 => ?_)
  · refine J_exit ?_
    show J _ _ _ _ _ _
    refine J_rs ?_
    refine R_p Wide.wide (P_fieldAddr rfl Try.underlying36 rfl Try.type2 rfl rfl) rfl rfl ?_
    refine R_loadb Wide.wide 0 rfl rfl _ Try.underlying2 rfl rfl rfl ?_
    refine R_p Wide.wide (P_lss rfl rfl) rfl rfl ?_
    refine R_p Wide.wide (P_move rfl) rfl rfl ?_
    refine R_gd Wide.wide rfl rfl rfl (fun hb20 => ?_) (fun hb20 => ?_)
    · refine R_p Wide.wide (P_fieldAddr rfl Try.underlying36 rfl Try.type2 rfl rfl) rfl rfl ?_
      refine R_gy rfl rfl ?_
      refine R_loadb Wide.wide 0 rfl rfl _ Try.underlying2 rfl rfl rfl ?_
      refine R_gy rfl rfl ?_
      refine R_p Wide.wide (P_gtr rfl rfl) rfl rfl ?_
      refine R_p Wide.wide (P_pickf rfl rfl) rfl rfl ?_
      refine JL_nil ?_
      refine J_ifs rfl (fun hb24 => ?_) (fun hb24 => ?_)
      · refine J_rs ?_
        refine R_p Wide.wide (P_assign rfl) rfl rfl ?_
        refine JL_nil ?_
        refine J_ret ?_
        refine Fin.ret _ (.inl rfl) rfl (Reads.one rfl (RV.tmp rfl)) fun _ _ => ?_
        simp_all [mayV] <;> (try intros) <;> (try omega)
      · refine J_skip ?_
        show J _ _ _ _ _ _
        refine J_seq ?_
        refine J_rs ?_
        refine R_p Wide.wide (P_fieldAddr rfl Try.underlying36 rfl Try.type9 rfl rfl) rfl rfl ?_
        refine R_loadb Wide.wide 0 rfl rfl _ Try.underlying9 rfl rfl rfl ?_
        refine R_p Wide.wide (P_eql rfl rfl Try.underlying9) rfl rfl ?_
        refine R_p Wide.wide (P_assign rfl) rfl rfl ?_
        refine JL_nil ?_
        refine J_ret ?_
        refine Fin.ret _ (.inl rfl) rfl (Reads.one rfl (RV.tmp rfl)) fun _ _ => ?_
        simp_all [mayV] <;> (try intros) <;> (try omega)
    · refine R_gn Wide.wide rfl rfl rfl rfl ?_
      refine R_gn Wide.wide rfl rfl rfl rfl ?_
      refine R_p Wide.wide (P_pickt rfl rfl) rfl rfl ?_
      refine JL_nil ?_
      refine J_ift rfl ?_
      refine J_rs ?_
      refine R_p Wide.wide (P_assign rfl) rfl rfl ?_
      refine JL_nil ?_
      refine J_ret ?_
      refine Fin.ret _ (.inl rfl) rfl (Reads.one rfl (RV.tmp rfl)) fun _ _ => ?_
      simp_all [mayV] <;> (try intros) <;> (try omega)
  · refine J_skip ?_
    show J _ _ _ _ _ _
    refine J_seq ?_
    refine J_seq ?_
    refine J_rs ?_
    refine R_p Wide.wide (P_eqi rfl rfl) rfl rfl ?_
    refine R_p Wide.wide (P_assign rfl) rfl rfl ?_
    refine JL_nil ?_
    refine J_ifs rfl (fun hb7 => ?_) (fun hb7 => ?_)
    · refine J_skip ?_
      show J _ _ _ _ _ _
      refine J_ift rfl ?_
      refine J_exit ?_
      show J _ _ _ _ _ _
      refine J_seq ?_
      refine J_rs ?_
      refine R_p Wide.wide (P_fieldAddr rfl Try.underlying36 rfl Try.type9 rfl rfl) rfl rfl ?_
      refine R_loadb Wide.wide 0 rfl rfl _ Try.underlying9 rfl rfl rfl ?_
      refine R_p Wide.wide (P_eql rfl rfl Try.underlying9) rfl rfl ?_
      refine R_p Wide.wide (P_assign rfl) rfl rfl ?_
      refine JL_nil ?_
      refine J_ret ?_
      refine Fin.ret _ (.inl rfl) rfl (Reads.one rfl (RV.tmp rfl)) fun _ _ => ?_
      simp_all [mayV] <;> (try intros) <;> (try omega)
    · refine J_region ?_
      refine R_p Wide.wide (P_eqi rfl rfl) rfl rfl ?_
      refine R_p Wide.wide (P_assign rfl) rfl rfl ?_
      refine JL_nil ?_
      refine J_ifs rfl (fun hb7 => ?_) (fun hb7 => ?_)
      · refine J_exit ?_
        show J _ _ _ _ _ _
        refine J_seq ?_
        refine J_rs ?_
        refine R_p Wide.wide (P_fieldAddr rfl Try.underlying36 rfl Try.type9 rfl rfl) rfl rfl ?_
        refine R_loadb Wide.wide 0 rfl rfl _ Try.underlying9 rfl rfl rfl ?_
        refine R_p Wide.wide (P_eql rfl rfl Try.underlying9) rfl rfl ?_
        refine R_p Wide.wide (P_assign rfl) rfl rfl ?_
        refine JL_nil ?_
        refine J_ret ?_
        refine Fin.ret _ (.inl rfl) rfl (Reads.one rfl (RV.tmp rfl)) fun _ _ => ?_
        simp_all [mayV] <;> (try intros) <;> (try omega)
      · refine J_skip ?_
        show J _ _ _ _ _ _
        refine J_seq ?_
        refine J_rs ?_
        refine R_p Wide.wide (P_eqi rfl rfl) rfl rfl ?_
        refine R_p Wide.wide (P_assign rfl) rfl rfl ?_
        refine JL_nil ?_
        refine J_ifs rfl (fun hb10 => ?_) (fun hb10 => ?_)
        · refine J_exit ?_
          show J _ _ _ _ _ _
          refine J_seq ?_
          refine J_rs ?_
          refine R_p Wide.wide (P_fieldAddr rfl Try.underlying36 rfl Try.type9 rfl rfl) rfl rfl ?_
          refine R_loadb Wide.wide 0 rfl rfl _ Try.underlying9 rfl rfl rfl ?_
          refine R_p Wide.wide (P_eql rfl rfl Try.underlying9) rfl rfl ?_
          refine R_p Wide.wide (P_move rfl) rfl rfl ?_
          refine R_gd Wide.wide rfl rfl rfl (fun hb31 => ?_) (fun hb31 => ?_)
          · refine R_p Wide.wide (P_fieldAddr rfl Try.underlying36 rfl Try.type2 rfl rfl) rfl rfl ?_
            refine R_gy rfl rfl ?_
            refine R_loadb Wide.wide 0 rfl rfl _ Try.underlying2 rfl rfl rfl ?_
            refine R_gy rfl rfl ?_
            refine R_p Wide.wide (P_geq rfl rfl) rfl rfl ?_
            refine R_p Wide.wide (P_pickt rfl rfl) rfl rfl ?_
            refine R_p Wide.wide (P_move rfl) rfl rfl ?_
            refine R_gd Wide.wide rfl rfl rfl (fun hb36 => ?_) (fun hb36 => ?_)
            · refine R_p Wide.wide (P_fieldAddr rfl Try.underlying36 rfl Try.type2 rfl rfl) rfl rfl ?_
              refine R_gy rfl rfl ?_
              refine R_loadb Wide.wide 0 rfl rfl _ Try.underlying2 rfl rfl rfl ?_
              refine R_gy rfl rfl ?_
              refine R_p Wide.wide (P_lss rfl rfl) rfl rfl ?_
              refine R_p Wide.wide (P_pickt rfl rfl) rfl rfl ?_
              refine R_p Wide.wide (P_assign rfl) rfl rfl ?_
              refine JL_nil ?_
              refine J_ret ?_
              refine Fin.ret _ (.inl rfl) rfl (Reads.one rfl (RV.tmp rfl)) fun _ _ => ?_
              simp_all [mayV] <;> (try intros) <;> (try omega)
            · refine R_gn Wide.wide rfl rfl rfl rfl ?_
              refine R_gn Wide.wide rfl rfl rfl rfl ?_
              refine R_p Wide.wide (P_pickf rfl rfl) rfl rfl ?_
              refine R_p Wide.wide (P_assign rfl) rfl rfl ?_
              refine JL_nil ?_
              refine J_ret ?_
              refine Fin.ret _ (.inl rfl) rfl (Reads.one rfl (RV.tmp rfl)) fun _ _ => ?_
              simp_all [mayV] <;> (try intros) <;> (try omega)
          · refine R_gn Wide.wide rfl rfl rfl rfl ?_
            refine R_gn Wide.wide rfl rfl rfl rfl ?_
            refine R_p Wide.wide (P_pickf rfl rfl) rfl rfl ?_
            refine R_p Wide.wide (P_move rfl) rfl rfl ?_
            refine R_gn Wide.wide rfl rfl rfl rfl ?_
            refine R_gn Wide.wide rfl rfl rfl rfl ?_
            refine R_gn Wide.wide rfl rfl rfl rfl ?_
            refine R_p Wide.wide (P_pickf rfl rfl) rfl rfl ?_
            refine R_p Wide.wide (P_assign rfl) rfl rfl ?_
            refine JL_nil ?_
            refine J_ret ?_
            refine Fin.ret _ (.inl rfl) rfl (Reads.one rfl (RV.tmp rfl)) fun _ _ => ?_
            simp_all [mayV] <;> (try intros) <;> (try omega)
        · refine J_skip ?_
          show J _ _ _ _ _ _
          refine J_seq ?_
          refine J_seq ?_
          refine J_rs ?_
          refine R_p Wide.wide (P_eqi rfl rfl) rfl rfl ?_
          refine R_p Wide.wide (P_assign rfl) rfl rfl ?_
          refine JL_nil ?_
          refine J_ifs rfl (fun hb12 => ?_) (fun hb12 => ?_)
          · refine J_skip ?_
            show J _ _ _ _ _ _
            refine J_ift rfl ?_
            refine J_exit ?_
            show J _ _ _ _ _ _
            refine J_seq ?_
            refine J_rs ?_
            refine R_p Wide.wide (P_fieldAddr rfl Try.underlying36 rfl Try.type2 rfl rfl) rfl rfl ?_
            refine R_loadb Wide.wide 0 rfl rfl _ Try.underlying2 rfl rfl rfl ?_
            refine R_p Wide.wide (P_eqi rfl rfl) rfl rfl ?_
            refine R_p Wide.wide (P_move rfl) rfl rfl ?_
            refine R_gd Wide.wide rfl rfl rfl (fun hb44 => ?_) (fun hb44 => ?_)
            · refine R_p Wide.wide (P_fieldAddr rfl Try.underlying36 rfl Try.type9 rfl rfl) rfl rfl ?_
              refine R_gy rfl rfl ?_
              refine R_loadb Wide.wide 0 rfl rfl _ Try.underlying9 rfl rfl rfl ?_
              refine R_gy rfl rfl ?_
              refine R_p Wide.wide (P_lenl rfl rfl Try.underlying9) rfl rfl ?_
              refine R_gy rfl rfl ?_
              refine R_p Wide.wide (P_leq rfl rfl) rfl rfl ?_
              refine R_p Wide.wide (P_pickt rfl rfl) rfl rfl ?_
              refine R_p Wide.wide (P_assign rfl) rfl rfl ?_
              refine JL_nil ?_
              refine J_ret ?_
              refine Fin.ret _ (.inl rfl) rfl (Reads.one rfl (RV.tmp rfl)) fun _ _ => ?_
              simp_all [mayV] <;> (try intros) <;> (try omega)
            · refine R_gn Wide.wide rfl rfl rfl rfl ?_
              refine R_gn Wide.wide rfl rfl rfl rfl ?_
              refine R_gn Wide.wide rfl rfl rfl rfl ?_
              refine R_p Wide.wide (P_pickf rfl rfl) rfl rfl ?_
              refine R_p Wide.wide (P_assign rfl) rfl rfl ?_
              refine JL_nil ?_
              refine J_ret ?_
              refine Fin.ret _ (.inl rfl) rfl (Reads.one rfl (RV.tmp rfl)) fun _ _ => ?_
              simp_all [mayV] <;> (try intros) <;> (try omega)
          · refine J_region ?_
            refine R_p Wide.wide (P_eqi rfl rfl) rfl rfl ?_
            refine R_p Wide.wide (P_assign rfl) rfl rfl ?_
            refine JL_nil ?_
            refine J_ifs rfl (fun hb12 => ?_) (fun hb12 => ?_)
            · refine J_exit ?_
              show J _ _ _ _ _ _
              refine J_seq ?_
              refine J_rs ?_
              refine R_p Wide.wide (P_fieldAddr rfl Try.underlying36 rfl Try.type2 rfl rfl) rfl rfl ?_
              refine R_loadb Wide.wide 0 rfl rfl _ Try.underlying2 rfl rfl rfl ?_
              refine R_p Wide.wide (P_eqi rfl rfl) rfl rfl ?_
              refine R_p Wide.wide (P_move rfl) rfl rfl ?_
              refine R_gd Wide.wide rfl rfl rfl (fun hb44 => ?_) (fun hb44 => ?_)
              · refine R_p Wide.wide (P_fieldAddr rfl Try.underlying36 rfl Try.type9 rfl rfl) rfl rfl ?_
                refine R_gy rfl rfl ?_
                refine R_loadb Wide.wide 0 rfl rfl _ Try.underlying9 rfl rfl rfl ?_
                refine R_gy rfl rfl ?_
                refine R_p Wide.wide (P_lenl rfl rfl Try.underlying9) rfl rfl ?_
                refine R_gy rfl rfl ?_
                refine R_p Wide.wide (P_leq rfl rfl) rfl rfl ?_
                refine R_p Wide.wide (P_pickt rfl rfl) rfl rfl ?_
                refine R_p Wide.wide (P_assign rfl) rfl rfl ?_
                refine JL_nil ?_
                refine J_ret ?_
                refine Fin.ret _ (.inl rfl) rfl (Reads.one rfl (RV.tmp rfl)) fun _ _ => ?_
                simp_all [mayV] <;> (try intros) <;> (try omega)
              · refine R_gn Wide.wide rfl rfl rfl rfl ?_
                refine R_gn Wide.wide rfl rfl rfl rfl ?_
                refine R_gn Wide.wide rfl rfl rfl rfl ?_
                refine R_p Wide.wide (P_pickf rfl rfl) rfl rfl ?_
                refine R_p Wide.wide (P_assign rfl) rfl rfl ?_
                refine JL_nil ?_
                refine J_ret ?_
                refine Fin.ret _ (.inl rfl) rfl (Reads.one rfl (RV.tmp rfl)) fun _ _ => ?_
                simp_all [mayV] <;> (try intros) <;> (try omega)
            · refine J_skip ?_
              show J _ _ _ _ _ _
              refine J_rs ?_
              refine R_p Wide.wide (P_eqi rfl rfl) rfl rfl ?_
              refine R_p Wide.wide (P_assign rfl) rfl rfl ?_
              refine JL_nil ?_
              refine J_ifs rfl (fun hb15 => ?_) (fun hb15 => ?_)
              · refine J_exit ?_
                show J _ _ _ _ _ _
                refine J_seq ?_
                refine J_rs ?_
                refine R_p Wide.wide (P_fieldAddr rfl Try.underlying36 rfl Try.type2 rfl rfl) rfl rfl ?_
                refine R_loadb Wide.wide 0 rfl rfl _ Try.underlying2 rfl rfl rfl ?_
                refine R_p Wide.wide (P_eqi rfl rfl) rfl rfl ?_
                refine R_p Wide.wide (P_move rfl) rfl rfl ?_
                refine R_gd Wide.wide rfl rfl rfl (fun hb53 => ?_) (fun hb53 => ?_)
                · refine R_p Wide.wide (P_fieldAddr rfl Try.underlying36 rfl Try.type9 rfl rfl) rfl rfl ?_
                  refine R_gy rfl rfl ?_
                  refine R_loadb Wide.wide 0 rfl rfl _ Try.underlying9 rfl rfl rfl ?_
                  refine R_gy rfl rfl ?_
                  refine R_fv Wide.wide Try.call55 rfl (c55 hs) (fun h hf => trivial) rfl ?_
                  refine R_p Wide.wide (P_pickt rfl rfl) rfl rfl ?_
                  refine R_p Wide.wide (P_assign rfl) rfl rfl ?_
                  refine JL_nil ?_
                  refine J_ret ?_
                  refine Fin.ret _ (.inl rfl) rfl (Reads.one rfl (RV.tmp rfl)) fun _ _ => ?_
                  simp_all [mayV] <;> (try intros) <;> (try omega)
                · refine R_gn Wide.wide rfl rfl rfl rfl ?_
                  refine R_gn Wide.wide rfl rfl rfl rfl ?_
                  refine R_p Wide.wide (P_pickf rfl rfl) rfl rfl ?_
                  refine R_p Wide.wide (P_assign rfl) rfl rfl ?_
                  refine JL_nil ?_
                  refine J_ret ?_
                  refine Fin.ret _ (.inl rfl) rfl (Reads.one rfl (RV.tmp rfl)) fun _ _ => ?_
                  simp_all [mayV] <;> (try intros) <;> (try omega)
              · refine J_skip ?_
                show J _ _ _ _ _ _
                refine J_exit ?_
                show J _ _ _ _ _ _
                refine J_rs ?_
                refine R_p Wide.wide (P_assign rfl) rfl rfl ?_
                refine JL_nil ?_
                refine J_ret ?_
                refine Fin.ret _ (.inl rfl) rfl (Reads.one rfl (RV.tmp rfl)) fun _ _ => ?_
                simp_all [mayV] <;> (try intros) <;> (try omega)

set_option maxRecDepth 100000 in
theorem c35 {v : V} (hs : v.s.length ≤ 1000000) : FnC Try.prog 35 [.agg v.cells.toArray].toArray (fun _ => True) (fun u _ => u = .int .i64 (if mayV v then 0 else 10)) := by
  refine fn_of_J Try.func35 rfl inferInstance 6 Try.ntmps35 (Nat.le_of_ble_eq_true rfl) fun W0 h0 => ?_
  refine J_rs ?_
  refine R_box Wide.wide rfl rfl rfl (fun b1 => ?_)
  refine R_p Wide.wide (P_assign rfl) rfl rfl ?_
  refine JL_nil ?_
  refine J_seq ?_
  refine J_rs ?_
  refine R_loadbs Wide.wide 0 (vs := v.cells) rfl rfl _ Try.underlying36 rfl Try.type36 rfl rfl rfl ?_
  refine R_fv Wide.wide Try.call47 rfl (c47 hs) (fun h hf => trivial) rfl ?_
  refine R_p Wide.wide (P_not rfl) rfl rfl ?_
  refine JL_nil ?_
  refine J_ifs rfl (fun hb5 => ?_) (fun hb5 => ?_)
  · refine J_rs ?_
    refine R_p Wide.wide (P_assign rfl) rfl rfl ?_
    refine JL_nil ?_
    refine J_ret ?_
    refine Fin.ret _ (.inl rfl) rfl (Reads.one rfl (RV.tmp rfl)) fun _ _ => ?_
    simp_all
  · refine J_skip ?_
    show J _ _ _ _ _ _
    refine J_rs ?_
    refine R_p Wide.wide (P_assign rfl) rfl rfl ?_
    refine JL_nil ?_
    refine J_ret ?_
    refine Fin.ret _ (.inl rfl) rfl (Reads.one rfl (RV.tmp rfl)) fun _ _ => ?_
    simp_all

set_option maxRecDepth 100000 in
theorem c19 {d : D} (hs : d.v.s.length ≤ 1000000) : FnC Try.prog 19 [.agg d.cells.toArray].toArray (fun _ => True) (fun u _ => u = .bool (mayD d)) := by
  refine fn_of_J Try.func19 rfl inferInstance 44 Try.ntmps19 (Nat.le_of_ble_eq_true rfl) fun W0 h0 => ?_
  refine J_rs ?_
  refine R_box Wide.wide rfl rfl rfl (fun b1 => ?_)
  refine R_p Wide.wide (P_assign rfl) rfl rfl ?_
  refine JL_nil ?_
  refine J_rs ?_
  refine R_p Wide.wide (P_fieldAddr rfl Try.underlying43 rfl Try.type2 rfl rfl) rfl rfl ?_
  refine R_loadb Wide.wide 0 rfl rfl _ Try.underlying2 rfl rfl rfl ?_
  refine R_p Wide.wide (P_geq rfl rfl) rfl rfl ?_
  refine R_p Wide.wide (P_move rfl) rfl rfl ?_
  refine R_gd Wide.wide rfl rfl rfl (fun hb6 => ?_) (fun hb6 => ?_)
  · refine R_p Wide.wide (P_fieldAddr rfl Try.underlying43 rfl Try.type2 rfl rfl) rfl rfl ?_
    refine R_gy rfl rfl ?_
    refine R_loadb Wide.wide 0 rfl rfl _ Try.underlying2 rfl rfl rfl ?_
    refine R_gy rfl rfl ?_
    refine R_p Wide.wide (P_lss rfl rfl) rfl rfl ?_
    refine R_p Wide.wide (P_pickt rfl rfl) rfl rfl ?_
    refine R_p Wide.wide (P_move rfl) rfl rfl ?_
    refine R_gd Wide.wide rfl rfl rfl (fun hb11 => ?_) (fun hb11 => ?_)
    · refine R_p Wide.wide (P_fieldAddr rfl Try.underlying43 rfl Try.type2 rfl rfl) rfl rfl ?_
      refine R_gy rfl rfl ?_
      refine R_loadb Wide.wide 0 rfl rfl _ Try.underlying2 rfl rfl rfl ?_
      refine R_gy rfl rfl ?_
      refine R_p Wide.wide (P_geq rfl rfl) rfl rfl ?_
      refine R_p Wide.wide (P_pickt rfl rfl) rfl rfl ?_
      refine R_p Wide.wide (P_move rfl) rfl rfl ?_
      refine R_gd Wide.wide rfl rfl rfl (fun hb16 => ?_) (fun hb16 => ?_)
      · refine R_p Wide.wide (P_fieldAddr rfl Try.underlying43 rfl Try.type2 rfl rfl) rfl rfl ?_
        refine R_gy rfl rfl ?_
        refine R_loadb Wide.wide 0 rfl rfl _ Try.underlying2 rfl rfl rfl ?_
        refine R_gy rfl rfl ?_
        refine R_p Wide.wide (P_lss rfl rfl) rfl rfl ?_
        refine R_p Wide.wide (P_pickt rfl rfl) rfl rfl ?_
        refine R_p Wide.wide (P_move rfl) rfl rfl ?_
        refine R_gd Wide.wide rfl rfl rfl (fun hb21 => ?_) (fun hb21 => ?_)
        · refine R_p Wide.wide (P_fieldAddr rfl Try.underlying43 rfl Try.type36 rfl rfl) rfl rfl ?_
          refine R_gy rfl rfl ?_
          refine R_loadbs Wide.wide 0 (vs := d.v.cells) rfl rfl _ Try.underlying36 rfl Try.type36 rfl rfl rfl ?_
          refine R_gy rfl rfl ?_
          refine R_fv Wide.wide Try.call35 rfl (c35 hs) (fun h hf => trivial) rfl ?_
          refine R_gy rfl rfl ?_
          refine R_p Wide.wide (P_eqi rfl rfl) rfl rfl ?_
          refine R_p Wide.wide (P_pickt rfl rfl) rfl rfl ?_
          refine R_p Wide.wide (P_move rfl) rfl rfl ?_
          refine R_gd Wide.wide rfl rfl rfl (fun hb27 => ?_) (fun hb27 => ?_)
          · refine R_p Wide.wide (P_fieldAddr rfl Try.underlying43 rfl Try.type2 rfl rfl) rfl rfl ?_
            refine R_gy rfl rfl ?_
            refine R_loadb Wide.wide 0 rfl rfl _ Try.underlying2 rfl rfl rfl ?_
            refine R_gy rfl rfl ?_
            refine R_p Wide.wide (P_geq rfl rfl) rfl rfl ?_
            refine R_p Wide.wide (P_pickt rfl rfl) rfl rfl ?_
            refine R_p Wide.wide (P_move rfl) rfl rfl ?_
            refine R_gd Wide.wide rfl rfl rfl (fun hb32 => ?_) (fun hb32 => ?_)
            · refine R_p Wide.wide (P_fieldAddr rfl Try.underlying43 rfl Try.type2 rfl rfl) rfl rfl ?_
              refine R_gy rfl rfl ?_
              refine R_loadb Wide.wide 0 rfl rfl _ Try.underlying2 rfl rfl rfl ?_
              refine R_gy rfl rfl ?_
              refine R_p Wide.wide (P_leq rfl rfl) rfl rfl ?_
              refine R_p Wide.wide (P_pickt rfl rfl) rfl rfl ?_
              refine R_p Wide.wide (P_move rfl) rfl rfl ?_
              refine R_gd Wide.wide rfl rfl rfl (fun hb37 => ?_) (fun hb37 => ?_)
              · refine R_p Wide.wide (P_fieldAddr rfl Try.underlying43 rfl Try.type2 rfl rfl) rfl rfl ?_
                refine R_gy rfl rfl ?_
                refine R_loadb Wide.wide 0 rfl rfl _ Try.underlying2 rfl rfl rfl ?_
                refine R_gy rfl rfl ?_
                refine R_p Wide.wide (P_fieldAddr rfl Try.underlying43 rfl Try.type2 rfl rfl) rfl rfl ?_
                refine R_gy rfl rfl ?_
                refine R_loadb Wide.wide 0 rfl rfl _ Try.underlying2 rfl rfl rfl ?_
                refine R_gy rfl rfl ?_
                refine R_p Wide.wide (P_lss rfl rfl) rfl rfl ?_
                refine R_p Wide.wide (P_pickt rfl rfl) rfl rfl ?_
                refine R_p Wide.wide (P_assign rfl) rfl rfl ?_
                refine JL_nil ?_
                refine J_ret ?_
                refine Fin.ret _ (.inl rfl) rfl (Reads.one rfl (RV.tmp rfl)) fun _ _ => ?_
                simp_all [mayD] <;> (try intros) <;> (try omega)
              · refine R_gn Wide.wide rfl rfl rfl rfl ?_
                refine R_gn Wide.wide rfl rfl rfl rfl ?_
                refine R_gn Wide.wide rfl rfl rfl rfl ?_
                refine R_gn Wide.wide rfl rfl rfl rfl ?_
                refine R_p Wide.wide (P_pickf rfl rfl) rfl rfl ?_
                refine R_p Wide.wide (P_assign rfl) rfl rfl ?_
                refine JL_nil ?_
                refine J_ret ?_
                refine Fin.ret _ (.inl rfl) rfl (Reads.one rfl (RV.tmp rfl)) fun _ _ => ?_
                simp_all [mayD] <;> (try intros) <;> (try omega)
            · refine R_gn Wide.wide rfl rfl rfl rfl ?_
              refine R_gn Wide.wide rfl rfl rfl rfl ?_
              refine R_p Wide.wide (P_pickf rfl rfl) rfl rfl ?_
              refine R_p Wide.wide (P_move rfl) rfl rfl ?_
              refine R_gn Wide.wide rfl rfl rfl rfl ?_
              refine R_gn Wide.wide rfl rfl rfl rfl ?_
              refine R_gn Wide.wide rfl rfl rfl rfl ?_
              refine R_gn Wide.wide rfl rfl rfl rfl ?_
              refine R_gn Wide.wide rfl rfl rfl rfl ?_
              refine R_p Wide.wide (P_pickf rfl rfl) rfl rfl ?_
              refine R_p Wide.wide (P_assign rfl) rfl rfl ?_
              refine JL_nil ?_
              refine J_ret ?_
              refine Fin.ret _ (.inl rfl) rfl (Reads.one rfl (RV.tmp rfl)) fun _ _ => ?_
              simp_all [mayD] <;> (try intros) <;> (try omega)
          · refine R_gn Wide.wide rfl rfl rfl rfl ?_
            refine R_gn Wide.wide rfl rfl rfl rfl ?_
            refine R_p Wide.wide (P_pickf rfl rfl) rfl rfl ?_
            refine R_p Wide.wide (P_move rfl) rfl rfl ?_
            refine R_gn Wide.wide rfl rfl rfl rfl ?_
            refine R_gn Wide.wide rfl rfl rfl rfl ?_
            refine R_gn Wide.wide rfl rfl rfl rfl ?_
            refine R_p Wide.wide (P_pickf rfl rfl) rfl rfl ?_
            refine R_p Wide.wide (P_move rfl) rfl rfl ?_
            refine R_gn Wide.wide rfl rfl rfl rfl ?_
            refine R_gn Wide.wide rfl rfl rfl rfl ?_
            refine R_gn Wide.wide rfl rfl rfl rfl ?_
            refine R_gn Wide.wide rfl rfl rfl rfl ?_
            refine R_gn Wide.wide rfl rfl rfl rfl ?_
            refine R_p Wide.wide (P_pickf rfl rfl) rfl rfl ?_
            refine R_p Wide.wide (P_assign rfl) rfl rfl ?_
            refine JL_nil ?_
            refine J_ret ?_
            refine Fin.ret _ (.inl rfl) rfl (Reads.one rfl (RV.tmp rfl)) fun _ _ => ?_
            simp_all [mayD] <;> (try intros) <;> (try omega)
        · refine R_gn Wide.wide rfl rfl rfl rfl ?_
          refine R_gn Wide.wide rfl rfl rfl rfl ?_
          refine R_gn Wide.wide rfl rfl rfl rfl ?_
          refine R_p Wide.wide (P_pickf rfl rfl) rfl rfl ?_
          refine R_p Wide.wide (P_move rfl) rfl rfl ?_
          refine R_gn Wide.wide rfl rfl rfl rfl ?_
          refine R_gn Wide.wide rfl rfl rfl rfl ?_
          refine R_gn Wide.wide rfl rfl rfl rfl ?_
          refine R_p Wide.wide (P_pickf rfl rfl) rfl rfl ?_
          refine R_p Wide.wide (P_move rfl) rfl rfl ?_
          refine R_gn Wide.wide rfl rfl rfl rfl ?_
          refine R_gn Wide.wide rfl rfl rfl rfl ?_
          refine R_gn Wide.wide rfl rfl rfl rfl ?_
          refine R_p Wide.wide (P_pickf rfl rfl) rfl rfl ?_
          refine R_p Wide.wide (P_move rfl) rfl rfl ?_
          refine R_gn Wide.wide rfl rfl rfl rfl ?_
          refine R_gn Wide.wide rfl rfl rfl rfl ?_
          refine R_gn Wide.wide rfl rfl rfl rfl ?_
          refine R_gn Wide.wide rfl rfl rfl rfl ?_
          refine R_gn Wide.wide rfl rfl rfl rfl ?_
          refine R_p Wide.wide (P_pickf rfl rfl) rfl rfl ?_
          refine R_p Wide.wide (P_assign rfl) rfl rfl ?_
          refine JL_nil ?_
          refine J_ret ?_
          refine Fin.ret _ (.inl rfl) rfl (Reads.one rfl (RV.tmp rfl)) fun _ _ => ?_
          simp_all [mayD] <;> (try intros) <;> (try omega)
      · refine R_gn Wide.wide rfl rfl rfl rfl ?_
        refine R_gn Wide.wide rfl rfl rfl rfl ?_
        refine R_p Wide.wide (P_pickf rfl rfl) rfl rfl ?_
        refine R_p Wide.wide (P_move rfl) rfl rfl ?_
        refine R_gn Wide.wide rfl rfl rfl rfl ?_
        refine R_gn Wide.wide rfl rfl rfl rfl ?_
        refine R_gn Wide.wide rfl rfl rfl rfl ?_
        refine R_gn Wide.wide rfl rfl rfl rfl ?_
        refine R_p Wide.wide (P_pickf rfl rfl) rfl rfl ?_
        refine R_p Wide.wide (P_move rfl) rfl rfl ?_
        refine R_gn Wide.wide rfl rfl rfl rfl ?_
        refine R_gn Wide.wide rfl rfl rfl rfl ?_
        refine R_gn Wide.wide rfl rfl rfl rfl ?_
        refine R_p Wide.wide (P_pickf rfl rfl) rfl rfl ?_
        refine R_p Wide.wide (P_move rfl) rfl rfl ?_
        refine R_gn Wide.wide rfl rfl rfl rfl ?_
        refine R_gn Wide.wide rfl rfl rfl rfl ?_
        refine R_gn Wide.wide rfl rfl rfl rfl ?_
        refine R_p Wide.wide (P_pickf rfl rfl) rfl rfl ?_
        refine R_p Wide.wide (P_move rfl) rfl rfl ?_
        refine R_gn Wide.wide rfl rfl rfl rfl ?_
        refine R_gn Wide.wide rfl rfl rfl rfl ?_
        refine R_gn Wide.wide rfl rfl rfl rfl ?_
        refine R_gn Wide.wide rfl rfl rfl rfl ?_
        refine R_gn Wide.wide rfl rfl rfl rfl ?_
        refine R_p Wide.wide (P_pickf rfl rfl) rfl rfl ?_
        refine R_p Wide.wide (P_assign rfl) rfl rfl ?_
        refine JL_nil ?_
        refine J_ret ?_
        refine Fin.ret _ (.inl rfl) rfl (Reads.one rfl (RV.tmp rfl)) fun _ _ => ?_
        simp_all [mayD] <;> (try intros) <;> (try omega)
    · refine R_gn Wide.wide rfl rfl rfl rfl ?_
      refine R_gn Wide.wide rfl rfl rfl rfl ?_
      refine R_p Wide.wide (P_pickf rfl rfl) rfl rfl ?_
      refine R_p Wide.wide (P_move rfl) rfl rfl ?_
      refine R_gn Wide.wide rfl rfl rfl rfl ?_
      refine R_gn Wide.wide rfl rfl rfl rfl ?_
      refine R_gn Wide.wide rfl rfl rfl rfl ?_
      refine R_p Wide.wide (P_pickf rfl rfl) rfl rfl ?_
      refine R_p Wide.wide (P_move rfl) rfl rfl ?_
      refine R_gn Wide.wide rfl rfl rfl rfl ?_
      refine R_gn Wide.wide rfl rfl rfl rfl ?_
      refine R_gn Wide.wide rfl rfl rfl rfl ?_
      refine R_gn Wide.wide rfl rfl rfl rfl ?_
      refine R_p Wide.wide (P_pickf rfl rfl) rfl rfl ?_
      refine R_p Wide.wide (P_move rfl) rfl rfl ?_
      refine R_gn Wide.wide rfl rfl rfl rfl ?_
      refine R_gn Wide.wide rfl rfl rfl rfl ?_
      refine R_gn Wide.wide rfl rfl rfl rfl ?_
      refine R_p Wide.wide (P_pickf rfl rfl) rfl rfl ?_
      refine R_p Wide.wide (P_move rfl) rfl rfl ?_
      refine R_gn Wide.wide rfl rfl rfl rfl ?_
      refine R_gn Wide.wide rfl rfl rfl rfl ?_
      refine R_gn Wide.wide rfl rfl rfl rfl ?_
      refine R_p Wide.wide (P_pickf rfl rfl) rfl rfl ?_
      refine R_p Wide.wide (P_move rfl) rfl rfl ?_
      refine R_gn Wide.wide rfl rfl rfl rfl ?_
      refine R_gn Wide.wide rfl rfl rfl rfl ?_
      refine R_gn Wide.wide rfl rfl rfl rfl ?_
      refine R_gn Wide.wide rfl rfl rfl rfl ?_
      refine R_gn Wide.wide rfl rfl rfl rfl ?_
      refine R_p Wide.wide (P_pickf rfl rfl) rfl rfl ?_
      refine R_p Wide.wide (P_assign rfl) rfl rfl ?_
      refine JL_nil ?_
      refine J_ret ?_
      refine Fin.ret _ (.inl rfl) rfl (Reads.one rfl (RV.tmp rfl)) fun _ _ => ?_
      simp_all [mayD] <;> (try intros) <;> (try omega)
  · refine R_gn Wide.wide rfl rfl rfl rfl ?_
    refine R_gn Wide.wide rfl rfl rfl rfl ?_
    refine R_p Wide.wide (P_pickf rfl rfl) rfl rfl ?_
    refine R_p Wide.wide (P_move rfl) rfl rfl ?_
    refine R_gn Wide.wide rfl rfl rfl rfl ?_
    refine R_gn Wide.wide rfl rfl rfl rfl ?_
    refine R_gn Wide.wide rfl rfl rfl rfl ?_
    refine R_p Wide.wide (P_pickf rfl rfl) rfl rfl ?_
    refine R_p Wide.wide (P_move rfl) rfl rfl ?_
    refine R_gn Wide.wide rfl rfl rfl rfl ?_
    refine R_gn Wide.wide rfl rfl rfl rfl ?_
    refine R_gn Wide.wide rfl rfl rfl rfl ?_
    refine R_p Wide.wide (P_pickf rfl rfl) rfl rfl ?_
    refine R_p Wide.wide (P_move rfl) rfl rfl ?_
    refine R_gn Wide.wide rfl rfl rfl rfl ?_
    refine R_gn Wide.wide rfl rfl rfl rfl ?_
    refine R_gn Wide.wide rfl rfl rfl rfl ?_
    refine R_gn Wide.wide rfl rfl rfl rfl ?_
    refine R_p Wide.wide (P_pickf rfl rfl) rfl rfl ?_
    refine R_p Wide.wide (P_move rfl) rfl rfl ?_
    refine R_gn Wide.wide rfl rfl rfl rfl ?_
    refine R_gn Wide.wide rfl rfl rfl rfl ?_
    refine R_gn Wide.wide rfl rfl rfl rfl ?_
    refine R_p Wide.wide (P_pickf rfl rfl) rfl rfl ?_
    refine R_p Wide.wide (P_move rfl) rfl rfl ?_
    refine R_gn Wide.wide rfl rfl rfl rfl ?_
    refine R_gn Wide.wide rfl rfl rfl rfl ?_
    refine R_gn Wide.wide rfl rfl rfl rfl ?_
    refine R_p Wide.wide (P_pickf rfl rfl) rfl rfl ?_
    refine R_p Wide.wide (P_move rfl) rfl rfl ?_
    refine R_gn Wide.wide rfl rfl rfl rfl ?_
    refine R_gn Wide.wide rfl rfl rfl rfl ?_
    refine R_gn Wide.wide rfl rfl rfl rfl ?_
    refine R_gn Wide.wide rfl rfl rfl rfl ?_
    refine R_gn Wide.wide rfl rfl rfl rfl ?_
    refine R_p Wide.wide (P_pickf rfl rfl) rfl rfl ?_
    refine R_p Wide.wide (P_assign rfl) rfl rfl ?_
    refine JL_nil ?_
    refine J_ret ?_
    refine Fin.ret _ (.inl rfl) rfl (Reads.one rfl (RV.tmp rfl)) fun _ _ => ?_
    simp_all [mayD] <;> (try intros) <;> (try omega)

set_option maxRecDepth 100000 in
theorem c12 {d : D} (hs : d.v.s.length ≤ 1000000) : FnC Try.prog 12 [.agg d.cells.toArray].toArray (fun _ => True) (fun u _ => u = .int .i64 (if mayD d then 0 else 40)) := by
  refine fn_of_J Try.func12 rfl inferInstance 6 Try.ntmps12 (Nat.le_of_ble_eq_true rfl) fun W0 h0 => ?_
  refine J_rs ?_
  refine R_box Wide.wide rfl rfl rfl (fun b1 => ?_)
  refine R_p Wide.wide (P_assign rfl) rfl rfl ?_
  refine JL_nil ?_
  refine J_seq ?_
  refine J_rs ?_
  refine R_loadbs Wide.wide 0 (vs := d.cells) rfl rfl _ Try.underlying43 rfl Try.type43 rfl rfl rfl ?_
  refine R_fv Wide.wide Try.call19 rfl (c19 hs) (fun h hf => trivial) rfl ?_
  refine R_p Wide.wide (P_not rfl) rfl rfl ?_
  refine JL_nil ?_
  refine J_ifs rfl (fun hb5 => ?_) (fun hb5 => ?_)
  · refine J_rs ?_
    refine R_p Wide.wide (P_assign rfl) rfl rfl ?_
    refine JL_nil ?_
    refine J_ret ?_
    refine Fin.ret _ (.inl rfl) rfl (Reads.one rfl (RV.tmp rfl)) fun _ _ => ?_
    simp_all
  · refine J_skip ?_
    show J _ _ _ _ _ _
    refine J_rs ?_
    refine R_p Wide.wide (P_assign rfl) rfl rfl ?_
    refine JL_nil ?_
    refine J_ret ?_
    refine Fin.ret _ (.inl rfl) rfl (Reads.one rfl (RV.tmp rfl)) fun _ _ => ?_
    simp_all

set_option maxRecDepth 100000 in
theorem c20 {x : Int} : FnC Try.prog 20 [.int .i64 x].toArray (fun _ => True) (fun u _ => u = .bool (isO x)) := by
  refine fn_of_J Try.func20 rfl inferInstance 9 Try.ntmps20 (Nat.le_of_ble_eq_true rfl) fun W0 h0 => ?_
  refine J_rs ?_
  refine R_p Wide.wide (P_assign rfl) rfl rfl ?_
  refine JL_nil ?_
  refine J_rs ?_
  refine R_p Wide.wide (P_move rfl) rfl rfl ?_
  refine R_p Wide.wide (P_geq rfl rfl) rfl rfl ?_
  refine R_p Wide.wide (P_move rfl) rfl rfl ?_
  refine R_gd Wide.wide rfl rfl rfl (fun hb5 => ?_) (fun hb5 => ?_)
  · refine R_p Wide.wide (P_move rfl) rfl rfl ?_
    refine R_gy rfl rfl ?_
    refine R_p Wide.wide (P_leq rfl rfl) rfl rfl ?_
    refine R_p Wide.wide (P_pickt rfl rfl) rfl rfl ?_
    refine R_p Wide.wide (P_assign rfl) rfl rfl ?_
    refine JL_nil ?_
    refine J_ret ?_
    refine Fin.ret _ (.inl rfl) rfl (Reads.one rfl (RV.tmp rfl)) fun _ _ => ?_
    simp_all [isO] <;> (try intros) <;> (try omega)
  · refine R_gn Wide.wide rfl rfl rfl rfl ?_
    refine R_p Wide.wide (P_pickf rfl rfl) rfl rfl ?_
    refine R_p Wide.wide (P_assign rfl) rfl rfl ?_
    refine JL_nil ?_
    refine J_ret ?_
    refine Fin.ret _ (.inl rfl) rfl (Reads.one rfl (RV.tmp rfl)) fun _ _ => ?_
    simp_all [isO] <;> (try intros) <;> (try omega)

set_option maxRecDepth 100000 in
theorem c21 {x : Int} {d : D} : FnC Try.prog 21 [.int .i64 x, .agg d.cells.toArray].toArray (fun _ => True) (fun u _ => u = .bool (hasO x d)) := by
  refine fn_of_J Try.func21 rfl inferInstance 16 Try.ntmps21 (Nat.le_of_ble_eq_true rfl) fun W0 h0 => ?_
  refine J_rs ?_
  refine R_box Wide.wide rfl rfl rfl (fun b3 => ?_)
  refine R_p Wide.wide (P_assign rfl) rfl rfl ?_
  refine JL_nil ?_
  refine J_seq ?_
  refine J_rs ?_
  refine R_p Wide.wide (P_move rfl) rfl rfl ?_
  refine JL_nil ?_
  refine J_block ?_
  refine J_seq ?_
  refine J_block ?_
  refine J_seq ?_
  refine J_block ?_
  refine J_seq ?_
  refine J_seq ?_
  refine J_rs ?_
  refine R_p Wide.wide (P_eqi rfl rfl) rfl rfl ?_
  refine R_p Wide.wide (P_assign rfl) rfl rfl ?_
  refine JL_nil ?_
  refine J_ifs rfl (fun hb6 => ?_) (fun hb6 => ?_)
  · refine J_exit ?_
    show J _ _ _ _ _ _
    refine J_rs ?_
    refine R_p Wide.wide (P_fieldAddr rfl Try.underlying43 rfl Try.type36 rfl rfl) rfl rfl ?_
    refine R_p Wide.wide (P_fieldAddr rfl Try.underlying36 rfl Try.type3 rfl rfl) rfl rfl ?_
    refine R_loadb Wide.wide 0 rfl rfl _ Try.underlying3 rfl rfl rfl ?_
    refine R_p Wide.wide (P_nei rfl rfl) rfl rfl ?_
    refine JL_nil ?_
    refine J_ifs rfl (fun hb15 => ?_) (fun hb15 => ?_)
    · refine J_rs ?_
      refine R_p Wide.wide (P_assign rfl) rfl rfl ?_
      refine JL_nil ?_
      refine J_ret ?_
      refine Fin.ret _ (.inl rfl) rfl (Reads.one rfl (RV.tmp rfl)) fun _ _ => ?_
      simp_all [hasO]
    · refine J_skip ?_
      show J _ _ _ _ _ _
      refine J_seq ?_
      refine J_rs ?_
      refine R_p Wide.wide (P_assign rfl) rfl rfl ?_
      refine JL_nil ?_
      refine J_ret ?_
      refine Fin.ret _ (.inl rfl) rfl (Reads.one rfl (RV.tmp rfl)) fun _ _ => ?_
      simp_all [hasO]
  · refine J_skip ?_
    show J _ _ _ _ _ _
    refine J_seq ?_
    refine J_rs ?_
    refine R_p Wide.wide (P_eqi rfl rfl) rfl rfl ?_
    refine R_p Wide.wide (P_assign rfl) rfl rfl ?_
    refine JL_nil ?_
    refine J_ifs rfl (fun hb8 => ?_) (fun hb8 => ?_)
    · refine J_skip ?_
      show J _ _ _ _ _ _
      refine J_ift rfl ?_
      refine J_exit ?_
      show J _ _ _ _ _ _
      refine J_seq ?_
      refine J_rs ?_
      refine R_p Wide.wide (P_assign rfl) rfl rfl ?_
      refine JL_nil ?_
      refine J_ret ?_
      refine Fin.ret _ (.inl rfl) rfl (Reads.one rfl (RV.tmp rfl)) fun _ _ => ?_
      simp_all [hasO]
    · refine J_rs ?_
      refine R_p Wide.wide (P_eqi rfl rfl) rfl rfl ?_
      refine R_p Wide.wide (P_assign rfl) rfl rfl ?_
      refine JL_nil ?_
      refine J_ifs rfl (fun hb8 => ?_) (fun hb8 => ?_)
      · refine J_skip ?_
        show J _ _ _ _ _ _
        refine J_ift rfl ?_
        refine J_exit ?_
        show J _ _ _ _ _ _
        refine J_seq ?_
        refine J_rs ?_
        refine R_p Wide.wide (P_assign rfl) rfl rfl ?_
        refine JL_nil ?_
        refine J_ret ?_
        refine Fin.ret _ (.inl rfl) rfl (Reads.one rfl (RV.tmp rfl)) fun _ _ => ?_
        simp_all [hasO]
      · refine J_region ?_
        refine R_p Wide.wide (P_eqi rfl rfl) rfl rfl ?_
        refine R_p Wide.wide (P_assign rfl) rfl rfl ?_
        refine JL_nil ?_
        refine J_ifs rfl (fun hb8 => ?_) (fun hb8 => ?_)
        · refine J_exit ?_
          show J _ _ _ _ _ _
          refine J_seq ?_
          refine J_rs ?_
          refine R_p Wide.wide (P_assign rfl) rfl rfl ?_
          refine JL_nil ?_
          refine J_ret ?_
          refine Fin.ret _ (.inl rfl) rfl (Reads.one rfl (RV.tmp rfl)) fun _ _ => ?_
          simp_all [hasO]
        · refine J_skip ?_
          show J _ _ _ _ _ _
          refine J_exit ?_
          show J _ _ _ _ _ _
          refine J_rs ?_
          refine R_p Wide.wide (P_assign rfl) rfl rfl ?_
          refine JL_nil ?_
          refine J_ret ?_
          refine Fin.ret _ (.inl rfl) rfl (Reads.one rfl (RV.tmp rfl)) fun _ _ => ?_
          simp_all [hasO]

set_option maxRecDepth 100000 in
theorem c43 {d : D} : FnC Try.prog 43 [.agg d.cells.toArray].toArray (fun _ => True) (fun u _ => u = .int .i64 (addN d)) := by
  refine fn_of_J Try.func43 rfl inferInstance 5 Try.ntmps43 (Nat.le_of_ble_eq_true rfl) fun W0 h0 => ?_
  refine J_rs ?_
  refine R_box Wide.wide rfl rfl rfl (fun b1 => ?_)
  refine R_p Wide.wide (P_assign rfl) rfl rfl ?_
  refine JL_nil ?_
  refine J_seq ?_
  refine J_rs ?_
  refine R_p Wide.wide (P_fieldAddr rfl Try.underlying43 rfl Try.type4 rfl rfl) rfl rfl ?_
  refine R_loadb Wide.wide 0 rfl rfl _ Try.underlying4 rfl rfl rfl ?_
  refine JL_nil ?_
  refine J_ifs rfl (fun hb4 => ?_) (fun hb4 => ?_)
  · refine J_rs ?_
    refine R_p Wide.wide (P_assign rfl) rfl rfl ?_
    refine JL_nil ?_
    refine J_ret ?_
    refine Fin.ret _ (.inl rfl) rfl (Reads.one rfl (RV.tmp rfl)) fun _ _ => ?_
    simp_all [addN]
  · refine J_skip ?_
    show J _ _ _ _ _ _
    refine J_rs ?_
    refine R_p Wide.wide (P_assign rfl) rfl rfl ?_
    refine JL_nil ?_
    refine J_ret ?_
    refine Fin.ret _ (.inl rfl) rfl (Reads.one rfl (RV.tmp rfl)) fun _ _ => ?_
    simp_all [addN]

set_option maxRecDepth 100000 in
theorem c46 {x : Int} : FnC Try.prog 46 [.int .i64 x].toArray (fun _ => True) (fun u _ => u = .agg (pn x).cells.toArray) := by
  refine fn_of_J Try.func46 rfl inferInstance 5 Try.ntmps46 (Nat.le_of_ble_eq_true rfl) fun W0 h0 => ?_
  refine J_rs ?_
  refine R_alloc Wide.wide Try.type38 rfl rfl rfl (fun b2 => ?_)
  refine JL_nil ?_
  refine J_rs ?_
  refine R_p Wide.wide (P_move rfl) rfl rfl ?_
  refine R_p Wide.wide (P_build [1, 1, 3] Try.underlying38 Try.type38 rfl rfl (ivs := [(1, .int .i64 x)]) rfl rfl) rfl rfl ?_
  refine R_store Wide.wide 0 rfl rfl rfl rfl Try.type38 rfl (Nat.le_of_ble_eq_true rfl) rfl rfl rfl ?_
  refine JL_nil ?_
  refine J_ret ?_
  refine Fin.ret _ (.inl rfl) rfl (Reads.one rfl (RV.cell 0 (t := 38) (cs := (pn x).cells) _ rfl rfl Try.underlying38 rfl Try.type38 rfl)) fun _ _ => ?_
  rfl

set_option maxRecDepth 100000 in
theorem c54 {v : V} : FnC Try.prog 54 [.agg v.cells.toArray].toArray (fun _ => True) (fun u _ => u = .agg (pv v).cells.toArray) := by
  refine fn_of_J Try.func54 rfl inferInstance 5 Try.ntmps54 (Nat.le_of_ble_eq_true rfl) fun W0 h0 => ?_
  refine J_rs ?_
  refine R_box Wide.wide rfl rfl rfl (fun b1 => ?_)
  refine R_alloc Wide.wide Try.type38 rfl rfl rfl (fun b2 => ?_)
  refine JL_nil ?_
  refine J_rs ?_
  refine R_loadbs Wide.wide 1 (vs := v.cells) rfl rfl _ Try.underlying36 rfl Try.type36 rfl rfl rfl ?_
  refine R_p Wide.wide (P_build [1, 1, 3] Try.underlying38 Try.type38 rfl rfl (ivs := [(0, .bool true), (2, .agg v.cells.toArray)]) rfl rfl) rfl rfl ?_
  refine R_store Wide.wide 0 rfl rfl rfl rfl Try.type38 rfl (Nat.le_of_ble_eq_true rfl) rfl rfl rfl ?_
  refine JL_nil ?_
  refine J_ret ?_
  refine Fin.ret _ (.inl rfl) rfl (Reads.one rfl (RV.cell 0 (t := 38) (cs := (pv v).cells) _ rfl rfl Try.underlying38 rfl Try.type38 rfl)) fun _ _ => ?_
  rfl

end Go.Proofs.Ytgheodbcgddjlaa
