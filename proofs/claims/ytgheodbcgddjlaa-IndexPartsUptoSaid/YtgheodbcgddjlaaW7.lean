/- Walks: put; a tree's Put and Len; a copy of bytes. -/
import Derived.Test.YtgheodbcgddjlaaW6
set_option linter.unusedVariables false
set_option linter.unusedSimpArgs false
namespace Go.Proofs.Ytgheodbcgddjlaa
open Go.RowKit Go.Grow Go.Hl Go.Ix

set_option maxRecDepth 100000 in
theorem c27 {kv : Value} {key : List UInt8} : ∀ (t : T), t.sh.Wf → t.sh.cnt ≤ 900000 → FnC Try.prog 27 [t.ptr, kv, .slice none 0 0].toArray (fun h => IsT h t ∧ Bs h kv key) (fun u h => Tr (putS key t.sh) u h)
  | .nil, _, _ => by
    refine fn_of_J Try.func27 rfl inferInstance 65 Try.ntmps27 (Nat.le_of_ble_eq_true rfl) fun W0 h0 => ?_
    refine J_pure (p := clist kv = [kv]) (fun h hf => Bs.clist hf.2) fun hkv => ?_
    refine J_rs ?_
    refine R_p Wide.wide (P_assign rfl) rfl rfl ?_
    refine JL_nil ?_
    refine J_seq ?_
    refine J_rs ?_
    refine R_p Wide.wide (P_move rfl) rfl rfl ?_
    refine R_p Wide.wide (P_eqn rfl rfl Try.underlying64) rfl rfl ?_
    refine JL_nil ?_
    refine J_ift rfl ?_
    refine J_rs ?_
    refine R_p Wide.wide (P_move rfl) rfl rfl ?_
    refine R_p Wide.wide (P_move rfl) rfl rfl ?_
    refine R_p Wide.wide (P_build [1, 1, 1, 1, 1, 1] Try.underlying88 Try.type88 rfl rfl (ivs := [(0, kv), (1, .slice none 0 0), (4, .int .i64 1), (5, .int .i64 1)]) (cs := ncells kv .nil .nil 1 1) rfl (by
      have e3 : ∀ b n c, clist (.slice b n c) = [.slice b n c] := fun _ _ _ => rfl
      have e4 : ∀ n, clist (.int .i64 n) = [.int .i64 n] := fun _ => rfl
      have e5 : ∀ cs, clist (.agg cs) = cs.toList := fun _ => rfl
      simp [lfill, place2, hkv, e3, e4, e5, ncells, T.ptr])) rfl rfl ?_
    refine R_box Wide.wide rfl rfl rfl (fun b13 => ?_)
    refine R_p Wide.wide (P_assign rfl) rfl rfl ?_
    refine JL_nil ?_
    refine J_pubbox (b := b13) (t := 88) (cs := ncells kv .nil .nil 1 1) [] [] rfl ?_
    exact J_ret (Fin.ret _ (.inl rfl) rfl (Reads.one rfl (RV.tmp rfl)) fun h hf => ⟨.node b13 kv key .nil .nil 1 1, rfl, ⟨hf.2, hf.1.2, trivial, trivial⟩, rfl⟩)
  | .node a nkv k l r dp mn, wf, hc => by
    have wl : l.sh.Wf := wf.2.2.2.1
    have wr : r.sh.Wf := wf.2.2.2.2
    have hcn : (T.node a nkv k l r dp mn).sh.cnt = 1 + l.sh.cnt + r.sh.cnt := rfl
    have il := c27 (kv := kv) (key := key) l wl (by omega)
    have ir := c27 (kv := kv) (key := key) r wr (by omega)
    refine fn_of_J Try.func27 rfl inferInstance 65 Try.ntmps27 (Nat.le_of_ble_eq_true rfl) fun W0 h0 => ?_
    refine J_pure (p := clist kv = [kv]) (fun h hf => Bs.clist hf.2) fun hkv => ?_
    refine J_rs ?_
    refine R_p Wide.wide (P_assign rfl) rfl rfl ?_
    refine JL_nil ?_
    refine J_seq ?_
    refine J_rs ?_
    refine R_p Wide.wide (P_move rfl) rfl rfl ?_
    refine R_p Wide.wide (P_eqn rfl rfl Try.underlying64) rfl rfl ?_
    refine JL_nil ?_
    refine J_iff rfl ?_
    refine J_skip ?_
    show J _ _ _ _ _ _
    refine J_seq ?_
    refine J_rs ?_
    refine R_p Wide.wide (P_move rfl) rfl rfl ?_
    refine R_p Wide.wide (P_move rfl) rfl rfl ?_
    refine R_p Wide.wide (P_nil rfl) rfl rfl ?_
    refine R_p Wide.wide (P_fieldAddr rfl Try.underlying88 rfl Try.type49 rfl rfl) rfl rfl ?_
    refine R_load Wide.wide rfl _ Try.underlying49 rfl rfl (fun h hf => IsT.cell hf.1 0 rfl) ?_
    refine R_fv Wide.wide Try.call38 rfl (c38 (x := key) (y := k)) (fun h hf => ⟨hf.2, hf.1.2.1⟩) rfl ?_
    refine R_p Wide.wide (P_assign rfl) rfl rfl ?_
    refine JL_nil ?_
    refine J_block ?_
    refine J_rs ?_
    refine R_p Wide.wide (P_move rfl) rfl rfl ?_
    refine R_p Wide.wide (P_lss rfl rfl) rfl rfl ?_
    refine R_p Wide.wide (P_assign rfl) rfl rfl ?_
    refine JL_nil ?_
    refine J_ifs rfl (fun hb20 => ?_) (fun hb20 => ?_)
    · refine J_ds Wide.wide 13 [(7, fun _ => Tr (putS key l.sh)), (12, fun _ => Tr (levelS k (putS key l.sh) r.sh))] rfl (by kernel_rfl) ?_
      refine G_p (P_move rfl) rfl rfl ?_
      refine G_p (P_move rfl) rfl rfl ?_
      refine G_p (P_nil rfl) rfl rfl ?_
      refine G_p (P_fieldAddr rfl Try.underlying88 rfl Try.type64 rfl rfl) rfl rfl ?_
      refine G_load rfl _ Try.underlying64 rfl rfl rfl (fun h hf hg => IsT.cell hf.1 2 rfl) ?_
      refine G_p (P_move rfl) rfl rfl ?_
      refine G_p (P_move rfl) rfl rfl ?_
      refine G_fn Try.call27 rfl il (fun h hf hg => ⟨hf.1.2.2.1, hf.2⟩) rfl (fun _ _ z => z) (fun _ => inferInstance) rfl (fun v30 => ?_)
      refine G_tr (fun t30 e30 s30 => ?_)
      subst e30
      have w30 : t30.sh.Wf := by rw [s30]; exact (putS_wf key wl).1
      have c30 : t30.sh.cnt ≤ l.sh.cnt + 1 := by rw [s30]; exact (putS_wf key wl).2
      refine G_p (P_move rfl) rfl rfl ?_
      refine G_p (P_nil rfl) rfl rfl ?_
      refine G_p (P_fieldAddr rfl Try.underlying88 rfl Try.type64 rfl rfl) rfl rfl ?_
      refine G_load rfl _ Try.underlying64 rfl rfl rfl (fun h hf hg => IsT.cell hf.1 3 rfl) ?_
      refine G_fn Try.call39 rfl (c39 (l := t30) (r := r) w30 wr (by omega)) (fun h hf hg => ⟨hf.1, hg _ (List.mem_cons_self ..) (by kernel_rfl), hf.1.2.2.2⟩) rfl (fun _ _ z => by rw [s30] at z; exact z) (fun _ => inferInstance) rfl (fun v35 => ?_)
      refine G_nil ?_
      refine R_p Wide.wide (P_assign rfl) rfl rfl ?_
      refine JL_nil ?_
      refine J_ret ?_
      refine Fin.ret _ (.inl rfl) rfl (Reads.one rfl (RV.tmp rfl)) fun h hf => ?_
      show Tr (putS key (.node k l.sh r.sh dp mn)) _ h
      rw [putS, if_pos (of_decide_eq_true hb20)]
      exact hf.2.1
    · refine J_rs ?_
      refine R_p Wide.wide (P_move rfl) rfl rfl ?_
      refine R_p Wide.wide (P_gtr rfl rfl) rfl rfl ?_
      refine R_p Wide.wide (P_assign rfl) rfl rfl ?_
      refine JL_nil ?_
      refine J_ifs rfl (fun hb36 => ?_) (fun hb36 => ?_)
      · refine J_ds Wide.wide 13 [(11, fun _ => Tr (putS key r.sh)), (12, fun _ => Tr (levelS k l.sh (putS key r.sh)))] rfl (by kernel_rfl) ?_
        refine G_p (P_move rfl) rfl rfl ?_
        refine G_p (P_move rfl) rfl rfl ?_
        refine G_p (P_nil rfl) rfl rfl ?_
        refine G_p (P_fieldAddr rfl Try.underlying88 rfl Try.type64 rfl rfl) rfl rfl ?_
        refine G_load rfl _ Try.underlying64 rfl rfl rfl (fun h hf hg => IsT.cell hf.1 2 rfl) ?_
        refine G_p (P_move rfl) rfl rfl ?_
        refine G_p (P_nil rfl) rfl rfl ?_
        refine G_p (P_fieldAddr rfl Try.underlying88 rfl Try.type64 rfl rfl) rfl rfl ?_
        refine G_load rfl _ Try.underlying64 rfl rfl rfl (fun h hf hg => IsT.cell hf.1 3 rfl) ?_
        refine G_p (P_move rfl) rfl rfl ?_
        refine G_p (P_move rfl) rfl rfl ?_
        refine G_fn Try.call27 rfl ir (fun h hf hg => ⟨hf.1.2.2.2, hf.2⟩) rfl (fun _ _ z => z) (fun _ => inferInstance) rfl (fun v50 => ?_)
        refine G_tr (fun t50 e50 s50 => ?_)
        subst e50
        have w50 : t50.sh.Wf := by rw [s50]; exact (putS_wf key wr).1
        have c50 : t50.sh.cnt ≤ r.sh.cnt + 1 := by rw [s50]; exact (putS_wf key wr).2
        refine G_fn Try.call39 rfl (c39 (l := l) (r := t50) wl w50 (by omega)) (fun h hf hg => ⟨hf.1, hf.1.2.2.1, hg _ (List.mem_cons_self ..) (by kernel_rfl)⟩) rfl (fun _ _ z => by rw [s50] at z; exact z) (fun _ => inferInstance) rfl (fun v51 => ?_)
        refine G_nil ?_
        refine R_p Wide.wide (P_assign rfl) rfl rfl ?_
        refine JL_nil ?_
        refine J_ret ?_
        refine Fin.ret _ (.inl rfl) rfl (Reads.one rfl (RV.tmp rfl)) fun h hf => ?_
        show Tr (putS key (.node k l.sh r.sh dp mn)) _ h
        rw [putS, if_neg (of_decide_eq_false hb20), if_pos (of_decide_eq_true hb36)]
        exact hf.2.1
      · refine J_skip ?_
        show J _ _ _ _ _ _
        refine J_ds Wide.wide 13 [(3, fun _ v h => ∃ b, v = .pointer (some ⟨b, 0, none⟩) ∧ h b = some (.cells (ncells kv .nil .nil 0 0).toArray 88 (0, 0))), (12, fun _ => Tr (joinS key l.sh r.sh))] rfl (by kernel_rfl) ?_
        refine G_p (P_move rfl) rfl rfl ?_
        refine G_p (P_move rfl) rfl rfl ?_
        refine G_p (P_build [1, 1, 1, 1, 1, 1] Try.underlying88 Try.type88 rfl rfl (ivs := [(0, kv), (1, .slice none 0 0)]) (cs := ncells kv .nil .nil 0 0) rfl (by
          have e3 : ∀ b n c, clist (.slice b n c) = [.slice b n c] := fun _ _ _ => rfl
          have e4 : ∀ n, clist (.int .i64 n) = [.int .i64 n] := fun _ => rfl
          have e5 : ∀ cs, clist (.agg cs) = cs.toList := fun _ => rfl
          simp [lfill, place2, hkv, e3, e4, e5, ncells, T.ptr])) rfl rfl ?_
        refine G_box (cs := ncells kv .nil .nil 0 0) rfl rfl rfl rfl (fun b55 => ?_)
        refine G_p (P_move rfl) rfl rfl ?_
        refine G_p (P_nil rfl) rfl rfl ?_
        refine G_p (P_fieldAddr rfl Try.underlying88 rfl Try.type64 rfl rfl) rfl rfl ?_
        refine G_load rfl _ Try.underlying64 rfl rfl rfl (fun h hf hg => IsT.cell hf.1 2 rfl) ?_
        refine G_p (P_move rfl) rfl rfl ?_
        refine G_p (P_nil rfl) rfl rfl ?_
        refine G_p (P_fieldAddr rfl Try.underlying88 rfl Try.type64 rfl rfl) rfl rfl ?_
        refine G_load rfl _ Try.underlying64 rfl rfl rfl (fun h hf hg => IsT.cell hf.1 3 rfl) ?_
        refine G_fn Try.call40 rfl (c40 (a := b55) (kv := kv) (key := key) (nl := .nil) (nr := .nil) (nd := 0) (nm := 0) (l := l) (r := r) wl wr (by omega)) (fun h hf hg => ⟨⟨hg _ (List.mem_cons_self ..) (by kernel_rfl), hf.2, trivial, trivial⟩, hf.1.2.2.1, hf.1.2.2.2⟩) rfl (fun _ _ z => z) (fun _ => inferInstance) rfl (fun v64 => ?_)
        refine G_nil ?_
        refine R_p Wide.wide (P_assign rfl) rfl rfl ?_
        refine JL_nil ?_
        refine J_ret ?_
        refine Fin.ret _ (.inl rfl) rfl (Reads.one rfl (RV.tmp rfl)) fun h hf => ?_
        show Tr (putS key (.node k l.sh r.sh dp mn)) _ h
        rw [putS, if_neg (of_decide_eq_false hb20), if_neg (of_decide_eq_false hb36)]
        exact hf.2.1

set_option maxRecDepth 100000 in
theorem c28 {v : Value} {l : List UInt8} (hb : l.length ≤ 100000000) : FnC Try.prog 28 [v].toArray (fun h => Bs h v l) (fun u h => Bs h u l) := by
  refine fn_of_J Try.func28 rfl inferInstance 8 Try.ntmps28 (Nat.le_of_ble_eq_true rfl) fun W0 h0 => ?_
  refine J_rdform (fun h hf => hf) (fun e hn hx => ?_) (fun b off cap e hcap => ?_)
  · subst e
    refine J_rs ?_
    refine R_p Wide.wide (P_assign rfl) rfl rfl ?_
    refine JL_nil ?_
    refine J_seq ?_
    refine J_rs ?_
    refine R_p Wide.wide (P_move rfl) rfl rfl ?_
    refine R_p Wide.wide (P_eqsl rfl rfl Try.underlying49) rfl rfl ?_
    refine JL_nil ?_
    refine J_ift rfl ?_
    refine J_rs ?_
    refine R_p Wide.wide (P_assign rfl) rfl rfl ?_
    refine JL_nil ?_
    exact J_ret (Fin.ret _ (.inl rfl) rfl (Reads.one rfl (RV.tmp rfl)) fun h hf => .inl ⟨rfl, hn, hx⟩)
  · subst e
    refine J_rs ?_
    refine R_p Wide.wide (P_assign rfl) rfl rfl ?_
    refine JL_nil ?_
    refine J_seq ?_
    refine J_rs ?_
    refine R_p Wide.wide (P_move rfl) rfl rfl ?_
    refine R_p Wide.wide (P_eqsl rfl rfl Try.underlying49) rfl rfl ?_
    refine JL_nil ?_
    refine J_iff rfl ?_
    refine J_skip ?_
    show J _ _ _ _ _ _
    refine J_rs ?_
    refine R_bslice0 Wide.wide Try.underlying49 Try.type5 rfl (fun b5 => ?_)
    refine R_p Wide.wide (P_move rfl) rfl rfl ?_
    refine R_appb Wide.wide 0 (xs := []) rfl rfl rfl Try.underlying49 Try.type5 rfl rfl rfl rfl (ys := l) (Src.fact fun h hf j u hj => by rw [add_none]; exact hf.2 j u hj) rfl (by simpa using hb) rfl (fun v7 => ?_)
    refine R_p Wide.wide (P_assign rfl) rfl rfl ?_
    refine JL_nil ?_
    refine J_pubown (v := v7) (n := ([] ++ l).length) (xs := cb ([] ++ l)) [] [] rfl ?_
    exact J_ret (Fin.ret _ (.inl rfl) rfl (Reads.one rfl (RV.tmp rfl)) fun h hf => Row.rd hf.2)

set_option maxRecDepth 100000 in
theorem c28n  : FnC Try.prog 28 [.slice none 0 0].toArray (fun _ => True) (fun u _ => u = .slice none 0 0) := by
  refine fn_of_J Try.func28 rfl inferInstance 8 Try.ntmps28 (Nat.le_of_ble_eq_true rfl) fun W0 h0 => ?_
  refine J_rs ?_
  refine R_p Wide.wide (P_assign rfl) rfl rfl ?_
  refine JL_nil ?_
  refine J_seq ?_
  refine J_rs ?_
  refine R_p Wide.wide (P_move rfl) rfl rfl ?_
  refine R_p Wide.wide (P_eqsl rfl rfl Try.underlying49) rfl rfl ?_
  refine JL_nil ?_
  refine J_ift rfl ?_
  refine J_rs ?_
  refine R_p Wide.wide (P_assign rfl) rfl rfl ?_
  refine JL_nil ?_
  exact J_ret (Fin.ret _ (.inl rfl) rfl (Reads.one rfl (RV.tmp rfl)) fun h hf => rfl)

set_option maxRecDepth 100000 in
theorem c24 {v : Value} {t : T} : FnC Try.prog 24 [v].toArray (fun h => Rt h v t) (fun u _ => u = t.ptr) := by
  refine fn_of_J Try.func24 rfl inferInstance 9 Try.ntmps24 (Nat.le_of_ble_eq_true rfl) fun W0 h0 => ?_
  refine J_or (G1 := fun _ => v = .pointer none ∧ t = .nil) (G2 := fun h => ∃ a, v = .pointer (some ⟨a, 0, none⟩) ∧ h a = some (.cells #[t.ptr] 71 (0, 0)) ∧ IsT h t) inferInstance inferInstance (fun h hf => hf) ?_ ?_
  · refine J_pure (fun h hf => hf.2) fun ⟨e1, e2⟩ => ?_
    subst e1
    refine J_rs ?_
    refine R_p Wide.wide (P_assign rfl) rfl rfl ?_
    refine JL_nil ?_
    refine J_seq ?_
    refine J_rs ?_
    refine R_p Wide.wide (P_move rfl) rfl rfl ?_
    refine R_p Wide.wide (P_eqn rfl rfl Try.underlying44) rfl rfl ?_
    refine JL_nil ?_
    refine J_ift rfl ?_
    refine J_rs ?_
    refine R_p Wide.wide (P_assign rfl) rfl rfl ?_
    refine JL_nil ?_
    exact J_ret (Fin.ret _ (.inl rfl) rfl (Reads.one rfl (RV.tmp rfl)) fun h hf => by rw [e2]; rfl)
  · refine J_ex (fun (a : Nat) h => v = .pointer (some ⟨a, 0, none⟩) ∧ h a = some (.cells #[t.ptr] 71 (0, 0)) ∧ IsT h t) (fun _ => inferInstance) (fun h hf => hf.2) fun a => ?_
    refine J_pure (fun h hf => hf.2.1) fun e1 => ?_
    subst e1
    refine J_facts (fun h => Rt h (.pointer (some ⟨a, 0, none⟩)) t ∧ (True ∧ h a = some (.cells #[t.ptr] 71 (0, 0)) ∧ IsT h t)) (fun h hf => ⟨hf.1.1, trivial, hf.2.2⟩) ?_
    refine J_rs ?_
    refine R_p Wide.wide (P_assign rfl) rfl rfl ?_
    refine JL_nil ?_
    refine J_seq ?_
    refine J_rs ?_
    refine R_p Wide.wide (P_move rfl) rfl rfl ?_
    refine R_p Wide.wide (P_eqn rfl rfl Try.underlying44) rfl rfl ?_
    refine JL_nil ?_
    refine J_iff rfl ?_
    refine J_skip ?_
    show J _ _ _ _ _ _
    refine J_rs ?_
    refine R_p Wide.wide (P_move rfl) rfl rfl ?_
    refine R_p Wide.wide (P_nil rfl) rfl rfl ?_
    refine R_p Wide.wide (P_fieldAddr rfl Try.underlying71 rfl Try.type64 rfl rfl) rfl rfl ?_
    refine R_load Wide.wide rfl _ Try.underlying64 rfl rfl (fun h hf => RdC.of_cells (cs := [t.ptr]) hf.2.2.1 0 _ rfl) ?_
    refine R_p Wide.wide (P_assign rfl) rfl rfl ?_
    refine JL_nil ?_
    exact J_ret (Fin.ret _ (.inl rfl) rfl (Reads.one rfl (RV.tmp rfl)) fun h hf => rfl)

set_option maxRecDepth 100000 in
theorem c17 {v : Value} {t : T} : FnC Try.prog 17 [v].toArray (fun h => Rt h v t) (fun u _ => u = .int .i64 t.sh.mn) := by
  refine fn_of_J Try.func17 rfl inferInstance 6 Try.ntmps17 (Nat.le_of_ble_eq_true rfl) fun W0 h0 => ?_
  refine J_rs ?_
  refine R_p Wide.wide (P_assign rfl) rfl rfl ?_
  refine JL_nil ?_
  refine J_rs ?_
  refine R_p Wide.wide (P_move rfl) rfl rfl ?_
  refine R_fv Wide.wide Try.call24 rfl c24 (fun h hf => hf) rfl ?_
  refine R_fv Wide.wide Try.call25 rfl c25 (fun h hf => Rt.isT hf) rfl ?_
  refine R_p Wide.wide (P_assign rfl) rfl rfl ?_
  refine JL_nil ?_
  exact J_ret (Fin.ret _ (.inl rfl) rfl (Reads.one rfl (RV.tmp rfl)) fun h hf => rfl)


set_option maxRecDepth 100000 in
theorem c14 {v kv : Value} {t : T} {key : List UInt8} (wf : t.sh.Wf) (hc : t.sh.cnt ≤ 900000) (hl : key.length ≤ 100000000) : FnC Try.prog 14 [v, kv, .slice none 0 0].toArray (fun h => Rt h v t ∧ Bs h kv key) (fun u h => (4096 < key.length ∧ u = .tuple #[.pointer none, .int .i64 100]) ∨ (key.length ≤ 4096 ∧ ∃ w t', u = .tuple #[w, .int .i64 0] ∧ Rt h w t' ∧ t'.sh = putS key t.sh)) := by
  refine fn_of_J Try.func14 rfl inferInstance 38 Try.ntmps14 (Nat.le_of_ble_eq_true rfl) fun W0 h0 => ?_
  refine J_rs ?_
  refine R_p Wide.wide (P_assign rfl) rfl rfl ?_
  refine R_p Wide.wide (P_assign rfl) rfl rfl ?_
  refine JL_nil ?_
  refine J_rs ?_
  refine R_p Wide.wide (P_move rfl) rfl rfl ?_
  refine R_fv Wide.wide Try.call24 rfl c24 (fun h hf => hf.1) rfl ?_
  refine R_p Wide.wide (P_assign rfl) rfl rfl ?_
  refine JL_nil ?_
  refine J_seq ?_
  refine J_rs ?_
  refine R_p Wide.wide (P_move rfl) rfl rfl ?_
  refine R_lenf Wide.wide rfl (fun h hf => hf.2) Try.underlying49 rfl ?_
  refine R_p Wide.wide (P_gtr rfl rfl) rfl rfl ?_
  refine R_p Wide.wide (P_move rfl) rfl rfl ?_
  refine R_gd Wide.wide rfl rfl rfl (fun hb14 => ?_) (fun hb14 => ?_)
  · refine R_p Wide.wide (P_move rfl) rfl rfl ?_
    refine R_gy rfl rfl ?_
    refine R_p Wide.wide (P_len rfl rfl Try.underlying49) rfl rfl ?_
    refine R_gy rfl rfl ?_
    refine R_p Wide.wide (P_gtr rfl rfl) rfl rfl ?_
    refine R_p Wide.wide (P_pickf rfl rfl) rfl rfl ?_
    refine R_p Wide.wide (P_move rfl) rfl rfl ?_
    refine R_gd Wide.wide rfl rfl rfl (fun hb19 => ?_) (fun hb19 => ?_)
    · refine R_p Wide.wide (P_move rfl) rfl rfl ?_
      refine R_gy rfl rfl ?_
      refine R_fv Wide.wide Try.call25 rfl c25 (fun h hf => Rt.isT hf.1) rfl ?_
      refine R_gy rfl rfl ?_
      refine R_p Wide.wide (P_geq rfl rfl) rfl rfl ?_
      refine R_gy rfl rfl ?_
      refine R_p Wide.wide (P_move rfl) rfl rfl ?_
      refine R_gd Wide.wide rfl rfl rfl (fun hb23 => ?_) (fun hb23 => ?_)
      · exfalso
        have h1 := of_decide_eq_true hb23
        rw [wf.mn] at h1
        omega
      · refine R_gn Wide.wide rfl rfl rfl rfl ?_
        refine R_gn Wide.wide rfl rfl rfl rfl ?_
        refine R_gn Wide.wide rfl rfl rfl rfl ?_
        refine R_gy rfl rfl ?_
        refine R_p Wide.wide (P_pickf rfl rfl) rfl rfl ?_
        refine R_p Wide.wide (P_pickf rfl rfl) rfl rfl ?_
        refine JL_nil ?_
        refine J_iff rfl ?_
        refine J_skip ?_
        show J _ _ _ _ _ _
        refine J_rs ?_
        refine R_p Wide.wide (P_move rfl) rfl rfl ?_
        refine R_p Wide.wide (P_move rfl) rfl rfl ?_
        refine R_fn Wide.wide Try.call28 rfl (c28 hl) (fun h hf => hf.2) (fun _ => inferInstance) rfl (fun v32 => ?_)
        refine R_p Wide.wide (P_move rfl) rfl rfl ?_
        refine R_fv Wide.wide Try.call28 rfl c28n (fun h hf => trivial) rfl ?_
        refine R_fn Wide.wide Try.call27 rfl (c27 (kv := v32) (key := key) t wf hc) (fun h hf => ⟨Rt.isT hf.1.1, hf.2⟩) (fun _ => inferInstance) rfl (fun v35 => ?_)
        refine JL_tr (fun h hf => hf.2) (t := 35) (fun t35 e35 s35 => ?_)
        subst e35
        refine R_p Wide.wide (P_build [1] Try.underlying71 Try.type71 rfl rfl (ivs := [(0, t35.ptr)]) (cs := [t35.ptr]) rfl (by have e1 := ptr_clist t35; have e5 : ∀ cs, clist (.agg cs) = cs.toList := fun _ => rfl; simp [lfill, place2, e1, e5])) rfl rfl ?_
        refine R_box Wide.wide rfl rfl rfl (fun b37 => ?_)
        refine R_p Wide.wide (P_assign rfl) rfl rfl ?_
        refine R_p Wide.wide (P_assign rfl) rfl rfl ?_
        refine JL_nil ?_
        refine J_pubbox (b := b37) (t := 71) (cs := [t35.ptr]) [] [] rfl ?_
        refine J_ret ?_
        exact Fin.ret _ (.inl rfl) rfl (Reads.two rfl (RV.tmp rfl) (RV.tmp rfl)) fun h hf => .inr ⟨by have := of_decide_eq_false hb14; omega, _, t35, rfl, .inr ⟨b37, rfl, hf.2, hf.1.2⟩, s35⟩
    · refine R_gn Wide.wide rfl rfl rfl rfl ?_
      refine R_gn Wide.wide rfl rfl rfl rfl ?_
      refine R_gn Wide.wide rfl rfl rfl rfl ?_
      refine R_gu Wide.wide rfl rfl rfl ?_
      refine R_gu Wide.wide rfl rfl rfl ?_
      refine R_gu Wide.wide rfl rfl rfl ?_
      refine R_gu Wide.wide rfl rfl rfl ?_
      refine R_gn Wide.wide rfl rfl rfl rfl ?_
      refine R_p Wide.wide (P_pickt rfl rfl) rfl rfl ?_
      refine JL_nil ?_
      refine J_ift rfl ?_
      refine J_rs ?_
      refine R_p Wide.wide (P_assign rfl) rfl rfl ?_
      refine R_p Wide.wide (P_assign rfl) rfl rfl ?_
      refine JL_nil ?_
      refine J_ret ?_
      first
        | (exfalso; simp at hb19; done)
        | exact Fin.ret _ (.inl rfl) rfl (Reads.two rfl (RV.tmp rfl) (RV.tmp rfl)) fun h hf => .inl ⟨by have := of_decide_eq_true hb14; omega, rfl⟩
  · refine R_gn Wide.wide rfl rfl rfl rfl ?_
    refine R_gn Wide.wide rfl rfl rfl rfl ?_
    refine R_p Wide.wide (P_pickt rfl rfl) rfl rfl ?_
    refine R_p Wide.wide (P_move rfl) rfl rfl ?_
    refine R_gn Wide.wide rfl rfl rfl rfl ?_
    refine R_gn Wide.wide rfl rfl rfl rfl ?_
    refine R_gn Wide.wide rfl rfl rfl rfl ?_
    refine R_gn Wide.wide rfl rfl rfl rfl ?_
    refine R_gu Wide.wide rfl rfl rfl ?_
    refine R_gu Wide.wide rfl rfl rfl ?_
    refine R_gu Wide.wide rfl rfl rfl ?_
    refine R_gu Wide.wide rfl rfl rfl ?_
    refine R_gn Wide.wide rfl rfl rfl rfl ?_
    refine R_p Wide.wide (P_pickt rfl rfl) rfl rfl ?_
    refine JL_nil ?_
    refine J_ift rfl ?_
    refine J_rs ?_
    refine R_p Wide.wide (P_assign rfl) rfl rfl ?_
    refine R_p Wide.wide (P_assign rfl) rfl rfl ?_
    refine JL_nil ?_
    refine J_ret ?_
    first
      | (exfalso; simp at hb19; done)
      | exact Fin.ret _ (.inl rfl) rfl (Reads.two rfl (RV.tmp rfl) (RV.tmp rfl)) fun h hf => .inl ⟨by have := of_decide_eq_true hb14; omega, rfl⟩

end Go.Proofs.Ytgheodbcgddjlaa
