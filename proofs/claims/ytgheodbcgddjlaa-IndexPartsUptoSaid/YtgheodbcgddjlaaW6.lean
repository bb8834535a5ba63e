/- Walks: a tree's nodes: deep, many, join, level. -/
import Derived.Test.YtgheodbcgddjlaaS2
set_option linter.unusedVariables false
set_option linter.unusedSimpArgs false
namespace Go.Proofs.Ytgheodbcgddjlaa
open Go.RowKit Go.Grow Go.Hl Go.Ix
theorem IsT.cell {h : Hp} {a : Nat} {kv : Value} {key : List UInt8} {l r : T} {d m : Int} (H : IsT h (.node a kv key l r d m)) (k : Nat) {v : Value} (hk : (ncells kv l r d m)[k]? = some v) : cellH h ⟨a, 0 + k, none⟩ = some v := RdC.of_cells H.1 k v hk

set_option maxRecDepth 100000 in
theorem c51 {t : T} : FnC Try.prog 51 [t.ptr].toArray (fun h => IsT h t) (fun u _ => u = .int .i64 t.sh.dp) := by
  cases t with
  | nil =>
    refine fn_of_J Try.func51 rfl inferInstance 9 Try.ntmps51 (Nat.le_of_ble_eq_true rfl) fun W0 h0 => ?_
    refine J_rs ?_
    refine R_p Wide.wide (P_assign rfl) rfl rfl ?_
    refine JL_nil ?_
    refine J_seq ?_
    refine J_rs ?_
    refine R_p Wide.wide (P_move rfl) rfl rfl ?_
    refine R_p Wide.wide (P_eqn rfl rfl Try.underlying64) rfl rfl ?_
    refine JL_nil ?_
    refine J_ift rfl ?_
    refine J_rs ?_
    refine R_p Wide.wide (P_assign rfl) rfl rfl ?_
    refine JL_nil ?_
    exact J_ret (Fin.ret _ (.inl rfl) rfl (Reads.one rfl (RV.tmp rfl)) fun _ _ => rfl)
  | node a kv key l r dp mn =>
    refine fn_of_J Try.func51 rfl inferInstance 9 Try.ntmps51 (Nat.le_of_ble_eq_true rfl) fun W0 h0 => ?_
    refine J_rs ?_
    refine R_p Wide.wide (P_assign rfl) rfl rfl ?_
    refine JL_nil ?_
    refine J_seq ?_
    refine J_rs ?_
    refine R_p Wide.wide (P_move rfl) rfl rfl ?_
    refine R_p Wide.wide (P_eqn rfl rfl Try.underlying64) rfl rfl ?_
    refine JL_nil ?_
    refine J_iff rfl ?_
    refine J_skip ?_
    show J _ _ _ _ _ _
    refine J_rs ?_
    refine R_p Wide.wide (P_move rfl) rfl rfl ?_
    refine R_p Wide.wide (P_nil rfl) rfl rfl ?_
    refine R_p Wide.wide (P_fieldAddr rfl Try.underlying88 rfl Try.type3 rfl rfl) rfl rfl ?_
    refine R_load Wide.wide rfl _ Try.underlying3 rfl rfl (fun h hf => IsT.cell hf 4 rfl) ?_
    refine R_p Wide.wide (P_assign rfl) rfl rfl ?_
    refine JL_nil ?_
    exact J_ret (Fin.ret _ (.inl rfl) rfl (Reads.one rfl (RV.tmp rfl)) fun _ _ => rfl)

set_option maxRecDepth 100000 in
theorem c25 {t : T} : FnC Try.prog 25 [t.ptr].toArray (fun h => IsT h t) (fun u _ => u = .int .i64 t.sh.mn) := by
  cases t with
  | nil =>
    refine fn_of_J Try.func25 rfl inferInstance 9 Try.ntmps25 (Nat.le_of_ble_eq_true rfl) fun W0 h0 => ?_
    refine J_rs ?_
    refine R_p Wide.wide (P_assign rfl) rfl rfl ?_
    refine JL_nil ?_
    refine J_seq ?_
    refine J_rs ?_
    refine R_p Wide.wide (P_move rfl) rfl rfl ?_
    refine R_p Wide.wide (P_eqn rfl rfl Try.underlying64) rfl rfl ?_
    refine JL_nil ?_
    refine J_ift rfl ?_
    refine J_rs ?_
    refine R_p Wide.wide (P_assign rfl) rfl rfl ?_
    refine JL_nil ?_
    exact J_ret (Fin.ret _ (.inl rfl) rfl (Reads.one rfl (RV.tmp rfl)) fun _ _ => rfl)
  | node a kv key l r dp mn =>
    refine fn_of_J Try.func25 rfl inferInstance 9 Try.ntmps25 (Nat.le_of_ble_eq_true rfl) fun W0 h0 => ?_
    refine J_rs ?_
    refine R_p Wide.wide (P_assign rfl) rfl rfl ?_
    refine JL_nil ?_
    refine J_seq ?_
    refine J_rs ?_
    refine R_p Wide.wide (P_move rfl) rfl rfl ?_
    refine R_p Wide.wide (P_eqn rfl rfl Try.underlying64) rfl rfl ?_
    refine JL_nil ?_
    refine J_iff rfl ?_
    refine J_skip ?_
    show J _ _ _ _ _ _
    refine J_rs ?_
    refine R_p Wide.wide (P_move rfl) rfl rfl ?_
    refine R_p Wide.wide (P_nil rfl) rfl rfl ?_
    refine R_p Wide.wide (P_fieldAddr rfl Try.underlying88 rfl Try.type3 rfl rfl) rfl rfl ?_
    refine R_load Wide.wide rfl _ Try.underlying3 rfl rfl (fun h hf => IsT.cell hf 5 rfl) ?_
    refine R_p Wide.wide (P_assign rfl) rfl rfl ?_
    refine JL_nil ?_
    exact J_ret (Fin.ret _ (.inl rfl) rfl (Reads.one rfl (RV.tmp rfl)) fun _ _ => rfl)

set_option maxRecDepth 100000 in
theorem c40 {a : Nat} {kv : Value} {key : List UInt8} {nl nr l r : T} {nd nm : Int} (wl : l.sh.Wf) (wr : r.sh.Wf) (hc : l.sh.cnt + r.sh.cnt ≤ 1000000000) : FnC Try.prog 40 [.pointer (some ⟨a, 0, none⟩), l.ptr, r.ptr].toArray (fun h => IsT h (.node a kv key nl nr nd nm) ∧ IsT h l ∧ IsT h r) (fun u h => Tr (joinS key l.sh r.sh) u h) := by
  refine fn_of_J Try.func40 rfl inferInstance 31 Try.ntmps40 (Nat.le_of_ble_eq_true rfl) fun W0 h0 => ?_
  refine J_pure (p := clist kv = [kv]) (fun h hf => Bs.clist hf.1.2.1) fun hkv => ?_
  have := wl.dp; have := wr.dp; have := wl.mn; have := wr.mn
  refine J_rs ?_
  refine R_p Wide.wide (P_assign rfl) rfl rfl ?_
  refine JL_nil ?_
  refine J_ds Wide.wide 22 [(11, fun _ u _ => u = .int .i64 l.sh.dp), (13, fun _ u _ => u = .int .i64 r.sh.dp), (17, fun _ u _ => u = .int .i64 l.sh.mn), (20, fun _ u _ => u = .int .i64 r.sh.mn)] rfl (by kernel_rfl) ?_
  refine G_p (P_move rfl) rfl rfl ?_
  refine G_p (P_nil rfl) rfl rfl ?_
  refine G_p (P_fieldAddr rfl Try.underlying88 rfl Try.type49 rfl rfl) rfl rfl ?_
  refine G_load rfl _ Try.underlying49 rfl rfl rfl (fun h hf hg => IsT.cell hf.1 0 rfl) ?_
  refine G_p (P_move rfl) rfl rfl ?_
  refine G_p (P_nil rfl) rfl rfl ?_
  refine G_p (P_fieldAddr rfl Try.underlying88 rfl Try.type49 rfl rfl) rfl rfl ?_
  refine G_load rfl _ Try.underlying49 rfl rfl rfl (fun h hf hg => IsT.cell hf.1 1 rfl) ?_
  refine G_p (P_move rfl) rfl rfl ?_
  refine G_p (P_move rfl) rfl rfl ?_
  refine G_p (P_move rfl) rfl rfl ?_
  refine G_fv Try.call51 rfl c51 (fun h hf hg => hf.2.1) rfl rfl ?_
  refine G_p (P_move rfl) rfl rfl ?_
  refine G_fv Try.call51 rfl c51 (fun h hf hg => hf.2.2) rfl rfl ?_
  refine G_p (P_max rfl rfl) rfl rfl ?_
  refine G_p (P_add rfl rfl (1 + max l.sh.dp r.sh.dp) (w64 (by omega))) rfl rfl ?_
  refine G_p (P_move rfl) rfl rfl ?_
  refine G_fv Try.call25 rfl c25 (fun h hf hg => hf.2.1) rfl rfl ?_
  refine G_p (P_add rfl rfl (1 + l.sh.mn) (w64 (by omega))) rfl rfl ?_
  refine G_p (P_move rfl) rfl rfl ?_
  refine G_fv Try.call25 rfl c25 (fun h hf hg => hf.2.2) rfl rfl ?_
  refine G_p (P_add rfl rfl (1 + l.sh.mn + r.sh.mn) (w64 (by omega))) rfl rfl ?_
  refine G_nil ?_
  refine R_p Wide.wide (P_build [1, 1, 1, 1, 1, 1] Try.underlying88 Try.type88 rfl rfl (ivs := [(0, kv), (1, .slice none 0 0), (2, l.ptr), (3, r.ptr), (4, .int .i64 (1 + max l.sh.dp r.sh.dp)), (5, .int .i64 (1 + l.sh.mn + r.sh.mn))]) (cs := ncells kv l r (1 + max l.sh.dp r.sh.dp) (1 + l.sh.mn + r.sh.mn)) rfl (by
    have e1 := ptr_clist l; have e2 := ptr_clist r
    have e3 : ∀ b n c, clist (.slice b n c) = [.slice b n c] := fun _ _ _ => rfl
    have e4 : ∀ n, clist (.int .i64 n) = [.int .i64 n] := fun _ => rfl
    have e5 : ∀ cs, clist (.agg cs) = cs.toList := fun _ => rfl
    simp [lfill, place2, hkv, e1, e2, e3, e4, e5, ncells])) rfl rfl ?_
  refine R_box Wide.wide rfl rfl rfl (fun b30 => ?_)
  refine R_p Wide.wide (P_assign rfl) rfl rfl ?_
  refine JL_nil ?_
  refine J_pubbox (b := b30) (t := 88) (cs := ncells kv l r (1 + max l.sh.dp r.sh.dp) (1 + l.sh.mn + r.sh.mn)) [] [] rfl ?_
  exact J_ret (Fin.ret _ (.inl rfl) rfl (Reads.one rfl (RV.tmp rfl)) fun h hf => ⟨.node b30 kv key l r _ _, rfl, ⟨hf.2, hf.1.1.1.2.1, hf.1.1.2.1, hf.1.1.2.2⟩, rfl⟩)

set_option maxRecDepth 100000 in
theorem c39 {a : Nat} {kv : Value} {key : List UInt8} {nl nr l r : T} {nd nm : Int} (wl : l.sh.Wf) (wr : r.sh.Wf) (hc : l.sh.cnt + r.sh.cnt ≤ 1000000) : FnC Try.prog 39 [.pointer (some ⟨a, 0, none⟩), l.ptr, r.ptr].toArray (fun h => IsT h (.node a kv key nl nr nd nm) ∧ IsT h l ∧ IsT h r) (fun u h => Tr (levelS key l.sh r.sh) u h) := by
  refine fn_of_J Try.func39 rfl inferInstance 147 Try.ntmps39 (Nat.le_of_ble_eq_true rfl) fun W0 h0 => ?_
  have := wl.dp; have := wr.dp
  refine J_rs ?_
  refine R_p Wide.wide (P_assign rfl) rfl rfl ?_
  refine JL_nil ?_
  refine J_seq ?_
  refine J_block ?_
  refine J_ds Wide.wide 17 [(1, fun _ u _ => u = .int .i64 l.sh.dp), (3, fun _ u _ => u = .int .i64 r.sh.dp), (11, fun _ u _ => u = .int .i64 l.sh.left.dp), (16, fun _ u _ => u = .int .i64 l.sh.right.dp)] rfl (by kernel_rfl) ?_
  refine G_p (P_move rfl) rfl rfl ?_
  refine G_fv Try.call51 rfl c51 (fun h hf hg => hf.2.1) rfl rfl ?_
  refine G_p (P_move rfl) rfl rfl ?_
  refine G_fv Try.call51 rfl c51 (fun h hf hg => hf.2.2) rfl rfl ?_
  refine G_p (P_add rfl rfl (r.sh.dp + 1) (w64 (by omega))) rfl rfl ?_
  refine G_p (P_gtr rfl rfl) rfl rfl ?_
  refine G_p (P_move rfl) rfl rfl ?_
  refine G_gd rfl rfl rfl (fun hb14 => ?_) (fun hb14 => ?_)
  · refine G_p (P_move rfl) rfl rfl ?_
    refine G_gy rfl rfl ?_
    obtain ⟨la, lkv, lk, ll, lr, ld, lm, rfl⟩ := T.node_of (t := l) (by have := of_decide_eq_true hb14; omega)
    have wll : ll.sh.Wf := wl.2.2.2.1
    have wlr : lr.sh.Wf := wl.2.2.2.2
    have hcl : (T.node la lkv lk ll lr ld lm).sh.cnt = 1 + ll.sh.cnt + lr.sh.cnt := rfl
    refine G_p (P_nil rfl) rfl rfl ?_
    refine G_gy rfl rfl ?_
    refine G_p (P_fieldAddr rfl Try.underlying88 rfl Try.type64 rfl rfl) rfl rfl ?_
    refine G_gy rfl rfl ?_
    refine G_load rfl _ Try.underlying64 rfl rfl rfl (fun h hf hg => IsT.cell hf.2.1 2 rfl) ?_
    refine G_gy rfl rfl ?_
    refine G_fv Try.call51 rfl c51 (fun h hf hg => hf.2.1.2.2.1) rfl rfl ?_
    refine G_gy rfl rfl ?_
    refine G_p (P_move rfl) rfl rfl ?_
    refine G_gy rfl rfl ?_
    refine G_p (P_nil rfl) rfl rfl ?_
    refine G_gy rfl rfl ?_
    refine G_p (P_fieldAddr rfl Try.underlying88 rfl Try.type64 rfl rfl) rfl rfl ?_
    refine G_gy rfl rfl ?_
    refine G_load rfl _ Try.underlying64 rfl rfl rfl (fun h hf hg => IsT.cell hf.2.1 3 rfl) ?_
    refine G_gy rfl rfl ?_
    refine G_fv Try.call51 rfl c51 (fun h hf hg => hf.2.1.2.2.2) rfl rfl ?_
    refine G_nil0 ?_
    refine R_gy rfl rfl ?_
    refine R_p Wide.wide (P_geq rfl rfl) rfl rfl ?_
    refine R_p Wide.wide (P_pickt rfl rfl) rfl rfl ?_
    refine R_p Wide.wide (P_assign rfl) rfl rfl ?_
    refine JL_nil ?_
    refine J_ifs rfl (fun hb7 => ?_) (fun hb7 => ?_)
    · refine J_ds Wide.wide 13 [(11, fun _ => Tr (joinS key lr.sh r.sh)), (12, fun _ => Tr (joinS lk ll.sh (joinS key lr.sh r.sh)))] rfl (by kernel_rfl) ?_
      refine G_p (P_move rfl) rfl rfl ?_
      refine G_p (P_move rfl) rfl rfl ?_
      refine G_p (P_nil rfl) rfl rfl ?_
      refine G_p (P_fieldAddr rfl Try.underlying88 rfl Try.type64 rfl rfl) rfl rfl ?_
      refine G_load rfl _ Try.underlying64 rfl rfl rfl (fun h hf hg => IsT.cell hf.2.1 2 rfl) ?_
      refine G_p (P_move rfl) rfl rfl ?_
      refine G_p (P_move rfl) rfl rfl ?_
      refine G_p (P_nil rfl) rfl rfl ?_
      refine G_p (P_fieldAddr rfl Try.underlying88 rfl Try.type64 rfl rfl) rfl rfl ?_
      refine G_load rfl _ Try.underlying64 rfl rfl rfl (fun h hf hg => IsT.cell hf.2.1 3 rfl) ?_
      refine G_p (P_move rfl) rfl rfl ?_
      refine G_fn Try.call40 rfl (c40 (l := lr) (r := r) wlr wr (by omega)) (fun h hf hg => ⟨hf.1, hf.2.1.2.2.2, hf.2.2⟩) rfl (fun _ _ z => z) (fun _ => inferInstance) rfl (fun v38 => ?_)
      refine G_tr (fun t38 e38 s38 => ?_)
      subst e38
      have w38 : t38.sh.Wf := by rw [s38]; exact joinS_wf wlr wr
      have c38 : t38.sh.cnt = 1 + lr.sh.cnt + r.sh.cnt := by rw [s38]; rfl
      refine G_fn Try.call40 rfl (c40 (l := ll) (r := t38) wll w38 (by omega)) (fun h hf hg => ⟨hf.2.1, hf.2.1.2.2.1, hg _ (List.mem_cons_self ..) (by kernel_rfl)⟩) rfl (fun _ _ z => by rw [s38] at z; exact z) (fun _ => inferInstance) rfl (fun v39 => ?_)
      refine G_nil ?_
      refine R_p Wide.wide (P_assign rfl) rfl rfl ?_
      refine JL_nil ?_
      refine J_ret ?_
      refine Fin.ret _ (.inl rfl) rfl (Reads.one rfl (RV.tmp rfl)) fun h hf => ?_
      unfold levelS
      rw [if_pos (show r.sh.dp + 1 < (T.node la lkv lk ll lr ld lm).sh.dp from of_decide_eq_true hb14), if_pos (show (T.node la lkv lk ll lr ld lm).sh.right.dp ≤ (T.node la lkv lk ll lr ld lm).sh.left.dp from of_decide_eq_true hb7)]
      exact hf.2.1
    · refine J_rs ?_
      refine R_p Wide.wide (P_move rfl) rfl rfl ?_
      refine R_fv Wide.wide Try.call51 rfl c51 (fun h hf => hf.2.1) rfl ?_
      refine R_p Wide.wide (P_move rfl) rfl rfl ?_
      refine R_fv Wide.wide Try.call51 rfl c51 (fun h hf => hf.2.2) rfl ?_
      refine R_p Wide.wide (P_add rfl rfl (r.sh.dp + 1) (w64 (by omega))) rfl rfl ?_
      refine R_p Wide.wide (P_gtr rfl rfl) rfl rfl ?_
      refine R_p Wide.wide (P_assign rfl) rfl rfl ?_
      refine JL_nil ?_
      refine J_ift (congrArg (fun b => some (Value.bool b)) hb14) ?_
      obtain ⟨a2, kv2, k2, l2, r2, d2, m2, rfl⟩ := T.node_of (t := lr) (by have := wll.dp; have h9 : ¬ lr.sh.dp ≤ ll.sh.dp := of_decide_eq_false hb7; omega)
      have w2l : l2.sh.Wf := wlr.2.2.2.1
      have w2r : r2.sh.Wf := wlr.2.2.2.2
      have hc2 : (T.node a2 kv2 k2 l2 r2 d2 m2).sh.cnt = 1 + l2.sh.cnt + r2.sh.cnt := rfl
      refine J_ds Wide.wide 28 [(16, fun _ => Tr (joinS lk ll.sh l2.sh)), (26, fun _ => Tr (joinS key r2.sh r.sh)), (27, fun _ => Tr (joinS k2 (joinS lk ll.sh l2.sh) (joinS key r2.sh r.sh)))] rfl (by kernel_rfl) ?_
      refine G_p (P_move rfl) rfl rfl ?_
      refine G_p (P_nil rfl) rfl rfl ?_
      refine G_p (P_fieldAddr rfl Try.underlying88 rfl Try.type64 rfl rfl) rfl rfl ?_
      refine G_load rfl _ Try.underlying64 rfl rfl rfl (fun h hf hg => IsT.cell hf.2.1 3 rfl) ?_
      refine G_p (P_move rfl) rfl rfl ?_
      refine G_p (P_move rfl) rfl rfl ?_
      refine G_p (P_nil rfl) rfl rfl ?_
      refine G_p (P_fieldAddr rfl Try.underlying88 rfl Try.type64 rfl rfl) rfl rfl ?_
      refine G_load rfl _ Try.underlying64 rfl rfl rfl (fun h hf hg => IsT.cell hf.2.1 2 rfl) ?_
      refine G_p (P_move rfl) rfl rfl ?_
      refine G_p (P_nil rfl) rfl rfl ?_
      refine G_p (P_fieldAddr rfl Try.underlying88 rfl Try.type64 rfl rfl) rfl rfl ?_
      refine G_load rfl _ Try.underlying64 rfl rfl rfl (fun h hf hg => IsT.cell hf.2.1 3 rfl) ?_
      refine G_p (P_nil rfl) rfl rfl ?_
      refine G_p (P_fieldAddr rfl Try.underlying88 rfl Try.type64 rfl rfl) rfl rfl ?_
      refine G_load rfl _ Try.underlying64 rfl rfl rfl (fun h hf hg => IsT.cell hf.2.1.2.2.2 2 rfl) ?_
      refine G_fn Try.call40 rfl (c40 (l := ll) (r := l2) wll w2l (by omega)) (fun h hf hg => ⟨hf.2.1, hf.2.1.2.2.1, hf.2.1.2.2.2.2.2.1⟩) rfl (fun _ _ z => z) (fun _ => inferInstance) rfl (fun v63 => ?_)
      refine G_tr (fun t63 e63 s63 => ?_)
      subst e63
      have w63 : t63.sh.Wf := by rw [s63]; exact joinS_wf wll w2l
      have c63 : t63.sh.cnt = 1 + ll.sh.cnt + l2.sh.cnt := by rw [s63]; rfl
      refine G_p (P_move rfl) rfl rfl ?_
      refine G_p (P_move rfl) rfl rfl ?_
      refine G_p (P_nil rfl) rfl rfl ?_
      refine G_p (P_fieldAddr rfl Try.underlying88 rfl Try.type64 rfl rfl) rfl rfl ?_
      refine G_load rfl _ Try.underlying64 rfl rfl rfl (fun h hf hg => IsT.cell hf.2.1 3 rfl) ?_
      refine G_p (P_nil rfl) rfl rfl ?_
      refine G_p (P_fieldAddr rfl Try.underlying88 rfl Try.type64 rfl rfl) rfl rfl ?_
      refine G_load rfl _ Try.underlying64 rfl rfl rfl (fun h hf hg => IsT.cell hf.2.1.2.2.2 3 rfl) ?_
      refine G_p (P_move rfl) rfl rfl ?_
      refine G_fn Try.call40 rfl (c40 (l := r2) (r := r) w2r wr (by omega)) (fun h hf hg => ⟨hf.1, hf.2.1.2.2.2.2.2.2, hf.2.2⟩) rfl (fun _ _ z => z) (fun _ => inferInstance) rfl (fun v73 => ?_)
      refine G_tr (fun t73 e73 s73 => ?_)
      subst e73
      have w73 : t73.sh.Wf := by rw [s73]; exact joinS_wf w2r wr
      have c73 : t73.sh.cnt = 1 + r2.sh.cnt + r.sh.cnt := by rw [s73]; rfl
      refine G_fn Try.call40 rfl (c40 (l := t63) (r := t73) w63 w73 (by omega)) (fun h hf hg => ⟨hf.2.1.2.2.2, hg _ (List.mem_cons_of_mem _ (List.mem_cons_self ..)) (by kernel_rfl), hg _ (List.mem_cons_self ..) (by kernel_rfl)⟩) rfl (fun _ _ z => by rw [s63, s73] at z; exact z) (fun _ => inferInstance) rfl (fun v74 => ?_)
      refine G_nil ?_
      refine R_p Wide.wide (P_assign rfl) rfl rfl ?_
      refine JL_nil ?_
      refine J_ret ?_
      refine Fin.ret _ (.inl rfl) rfl (Reads.one rfl (RV.tmp rfl)) fun h hf => ?_
      unfold levelS
      rw [if_pos (show r.sh.dp + 1 < (T.node la lkv lk ll (.node a2 kv2 k2 l2 r2 d2 m2) ld lm).sh.dp from of_decide_eq_true hb14), if_neg (show ¬ (T.node la lkv lk ll (.node a2 kv2 k2 l2 r2 d2 m2) ld lm).sh.right.dp ≤ (T.node la lkv lk ll (.node a2 kv2 k2 l2 r2 d2 m2) ld lm).sh.left.dp from of_decide_eq_false hb7)]
      exact hf.2.1
  · refine G_gn rfl rfl rfl rfl ?_
    refine G_gn rfl rfl rfl rfl ?_
    refine G_gn rfl rfl rfl rfl ?_
    refine G_gn rfl rfl rfl rfl ?_
    refine G_gn rfl rfl rfl rfl ?_
    refine G_gn rfl rfl rfl rfl ?_
    refine G_gn rfl rfl rfl rfl ?_
    refine G_gn rfl rfl rfl rfl ?_
    refine G_gn rfl rfl rfl rfl ?_
    refine G_nil0 ?_
    refine R_gn Wide.wide rfl rfl rfl rfl ?_
    refine R_p Wide.wide (P_pickf rfl rfl) rfl rfl ?_
    refine R_p Wide.wide (P_assign rfl) rfl rfl ?_
    refine JL_nil ?_
    refine J_iff rfl ?_
    refine J_rs ?_
    refine R_p Wide.wide (P_move rfl) rfl rfl ?_
    refine R_fv Wide.wide Try.call51 rfl c51 (fun h hf => hf.2.1) rfl ?_
    refine R_p Wide.wide (P_move rfl) rfl rfl ?_
    refine R_fv Wide.wide Try.call51 rfl c51 (fun h hf => hf.2.2) rfl ?_
    refine R_p Wide.wide (P_add rfl rfl (r.sh.dp + 1) (w64 (by omega))) rfl rfl ?_
    refine R_p Wide.wide (P_gtr rfl rfl) rfl rfl ?_
    refine R_p Wide.wide (P_assign rfl) rfl rfl ?_
    refine JL_nil ?_
    refine J_iff (congrArg (fun b => some (Value.bool b)) hb14) ?_
    refine J_ds Wide.wide 17 [(1, fun _ u _ => u = .int .i64 r.sh.dp), (3, fun _ u _ => u = .int .i64 l.sh.dp), (11, fun _ u _ => u = .int .i64 r.sh.right.dp), (16, fun _ u _ => u = .int .i64 r.sh.left.dp)] rfl (by kernel_rfl) ?_
    refine G_p (P_move rfl) rfl rfl ?_
    refine G_fv Try.call51 rfl c51 (fun h hf hg => hf.2.2) rfl rfl ?_
    refine G_p (P_move rfl) rfl rfl ?_
    refine G_fv Try.call51 rfl c51 (fun h hf hg => hf.2.1) rfl rfl ?_
    refine G_p (P_add rfl rfl (l.sh.dp + 1) (w64 (by omega))) rfl rfl ?_
    refine G_p (P_gtr rfl rfl) rfl rfl ?_
    refine G_p (P_move rfl) rfl rfl ?_
    refine G_gd rfl rfl rfl (fun hb82 => ?_) (fun hb82 => ?_)
    · refine G_p (P_move rfl) rfl rfl ?_
      refine G_gy rfl rfl ?_
      obtain ⟨ra, rkv, rk, rl, rr, rd, rm, rfl⟩ := T.node_of (t := r) (by have := of_decide_eq_true hb82; omega)
      have wrl : rl.sh.Wf := wr.2.2.2.1
      have wrr : rr.sh.Wf := wr.2.2.2.2
      have hcr : (T.node ra rkv rk rl rr rd rm).sh.cnt = 1 + rl.sh.cnt + rr.sh.cnt := rfl
      refine G_p (P_nil rfl) rfl rfl ?_
      refine G_gy rfl rfl ?_
      refine G_p (P_fieldAddr rfl Try.underlying88 rfl Try.type64 rfl rfl) rfl rfl ?_
      refine G_gy rfl rfl ?_
      refine G_load rfl _ Try.underlying64 rfl rfl rfl (fun h hf hg => IsT.cell hf.2.2 3 rfl) ?_
      refine G_gy rfl rfl ?_
      refine G_fv Try.call51 rfl c51 (fun h hf hg => hf.2.2.2.2.2) rfl rfl ?_
      refine G_gy rfl rfl ?_
      refine G_p (P_move rfl) rfl rfl ?_
      refine G_gy rfl rfl ?_
      refine G_p (P_nil rfl) rfl rfl ?_
      refine G_gy rfl rfl ?_
      refine G_p (P_fieldAddr rfl Try.underlying88 rfl Try.type64 rfl rfl) rfl rfl ?_
      refine G_gy rfl rfl ?_
      refine G_load rfl _ Try.underlying64 rfl rfl rfl (fun h hf hg => IsT.cell hf.2.2 2 rfl) ?_
      refine G_gy rfl rfl ?_
      refine G_fv Try.call51 rfl c51 (fun h hf hg => hf.2.2.2.2.1) rfl rfl ?_
      refine G_nil0 ?_
      refine R_gy rfl rfl ?_
      refine R_p Wide.wide (P_geq rfl rfl) rfl rfl ?_
      refine R_p Wide.wide (P_pickt rfl rfl) rfl rfl ?_
      refine R_p Wide.wide (P_assign rfl) rfl rfl ?_
      refine JL_nil ?_
      refine J_ifs rfl (fun hb75 => ?_) (fun hb75 => ?_)
      · refine J_ds Wide.wide 13 [(7, fun _ => Tr (joinS key l.sh rl.sh)), (12, fun _ => Tr (joinS rk (joinS key l.sh rl.sh) rr.sh))] rfl (by kernel_rfl) ?_
        refine G_p (P_move rfl) rfl rfl ?_
        refine G_p (P_move rfl) rfl rfl ?_
        refine G_p (P_move rfl) rfl rfl ?_
        refine G_p (P_move rfl) rfl rfl ?_
        refine G_p (P_nil rfl) rfl rfl ?_
        refine G_p (P_fieldAddr rfl Try.underlying88 rfl Try.type64 rfl rfl) rfl rfl ?_
        refine G_load rfl _ Try.underlying64 rfl rfl rfl (fun h hf hg => IsT.cell hf.2.2 2 rfl) ?_
        refine G_fn Try.call40 rfl (c40 (l := l) (r := rl) wl wrl (by omega)) (fun h hf hg => ⟨hf.1, hf.2.1, hf.2.2.2.2.1⟩) rfl (fun _ _ z => z) (fun _ => inferInstance) rfl (fun v102 => ?_)
        refine G_tr (fun t102 e102 s102 => ?_)
        subst e102
        have w102 : t102.sh.Wf := by rw [s102]; exact joinS_wf wl wrl
        have c102 : t102.sh.cnt = 1 + l.sh.cnt + rl.sh.cnt := by rw [s102]; rfl
        refine G_p (P_move rfl) rfl rfl ?_
        refine G_p (P_nil rfl) rfl rfl ?_
        refine G_p (P_fieldAddr rfl Try.underlying88 rfl Try.type64 rfl rfl) rfl rfl ?_
        refine G_load rfl _ Try.underlying64 rfl rfl rfl (fun h hf hg => IsT.cell hf.2.2 3 rfl) ?_
        refine G_fn Try.call40 rfl (c40 (l := t102) (r := rr) w102 wrr (by omega)) (fun h hf hg => ⟨hf.2.2, hg _ (List.mem_cons_self ..) (by kernel_rfl), hf.2.2.2.2.2⟩) rfl (fun _ _ z => by rw [s102] at z; exact z) (fun _ => inferInstance) rfl (fun v107 => ?_)
        refine G_nil ?_
        refine R_p Wide.wide (P_assign rfl) rfl rfl ?_
        refine JL_nil ?_
        refine J_ret ?_
        refine Fin.ret _ (.inl rfl) rfl (Reads.one rfl (RV.tmp rfl)) fun h hf => ?_
        unfold levelS
        rw [if_neg (show ¬ (T.node ra rkv rk rl rr rd rm).sh.dp + 1 < l.sh.dp from of_decide_eq_false hb14), if_pos (show l.sh.dp + 1 < (T.node ra rkv rk rl rr rd rm).sh.dp from of_decide_eq_true hb82), if_pos (show (T.node ra rkv rk rl rr rd rm).sh.left.dp ≤ (T.node ra rkv rk rl rr rd rm).sh.right.dp from of_decide_eq_true hb75)]
        exact hf.2.1
      · refine J_rs ?_
        refine R_p Wide.wide (P_move rfl) rfl rfl ?_
        refine R_fv Wide.wide Try.call51 rfl c51 (fun h hf => hf.2.2) rfl ?_
        refine R_p Wide.wide (P_move rfl) rfl rfl ?_
        refine R_fv Wide.wide Try.call51 rfl c51 (fun h hf => hf.2.1) rfl ?_
        refine R_p Wide.wide (P_add rfl rfl (l.sh.dp + 1) (w64 (by omega))) rfl rfl ?_
        refine R_p Wide.wide (P_gtr rfl rfl) rfl rfl ?_
        refine R_p Wide.wide (P_assign rfl) rfl rfl ?_
        refine JL_nil ?_
        refine J_ift (congrArg (fun b => some (Value.bool b)) hb82) ?_
        obtain ⟨a3, kv3, k3, l3, r3, d3, m3, rfl⟩ := T.node_of (t := rl) (by have := wrr.dp; have h9 : ¬ rl.sh.dp ≤ rr.sh.dp := of_decide_eq_false hb75; omega)
        have w3l : l3.sh.Wf := wrl.2.2.2.1
        have w3r : r3.sh.Wf := wrl.2.2.2.2
        have hc3 : (T.node a3 kv3 k3 l3 r3 d3 m3).sh.cnt = 1 + l3.sh.cnt + r3.sh.cnt := rfl
        refine J_ds Wide.wide 28 [(13, fun _ => Tr (joinS key l.sh l3.sh)), (26, fun _ => Tr (joinS rk r3.sh rr.sh)), (27, fun _ => Tr (joinS k3 (joinS key l.sh l3.sh) (joinS rk r3.sh rr.sh)))] rfl (by kernel_rfl) ?_
        refine G_p (P_move rfl) rfl rfl ?_
        refine G_p (P_nil rfl) rfl rfl ?_
        refine G_p (P_fieldAddr rfl Try.underlying88 rfl Try.type64 rfl rfl) rfl rfl ?_
        refine G_load rfl _ Try.underlying64 rfl rfl rfl (fun h hf hg => IsT.cell hf.2.2 2 rfl) ?_
        refine G_p (P_move rfl) rfl rfl ?_
        refine G_p (P_move rfl) rfl rfl ?_
        refine G_p (P_move rfl) rfl rfl ?_
        refine G_p (P_nil rfl) rfl rfl ?_
        refine G_p (P_fieldAddr rfl Try.underlying88 rfl Try.type64 rfl rfl) rfl rfl ?_
        refine G_load rfl _ Try.underlying64 rfl rfl rfl (fun h hf hg => IsT.cell hf.2.2 2 rfl) ?_
        refine G_p (P_nil rfl) rfl rfl ?_
        refine G_p (P_fieldAddr rfl Try.underlying88 rfl Try.type64 rfl rfl) rfl rfl ?_
        refine G_load rfl _ Try.underlying64 rfl rfl rfl (fun h hf hg => IsT.cell hf.2.2.2.2.1 2 rfl) ?_
        refine G_fn Try.call40 rfl (c40 (l := l) (r := l3) wl w3l (by omega)) (fun h hf hg => ⟨hf.1, hf.2.1, hf.2.2.2.2.1.2.2.1⟩) rfl (fun _ _ z => z) (fun _ => inferInstance) rfl (fun v128 => ?_)
        refine G_tr (fun t128 e128 s128 => ?_)
        subst e128
        have w128 : t128.sh.Wf := by rw [s128]; exact joinS_wf wl w3l
        have c128 : t128.sh.cnt = 1 + l.sh.cnt + l3.sh.cnt := by rw [s128]; rfl
        refine G_p (P_move rfl) rfl rfl ?_
        refine G_p (P_move rfl) rfl rfl ?_
        refine G_p (P_nil rfl) rfl rfl ?_
        refine G_p (P_fieldAddr rfl Try.underlying88 rfl Try.type64 rfl rfl) rfl rfl ?_
        refine G_load rfl _ Try.underlying64 rfl rfl rfl (fun h hf hg => IsT.cell hf.2.2 2 rfl) ?_
        refine G_p (P_nil rfl) rfl rfl ?_
        refine G_p (P_fieldAddr rfl Try.underlying88 rfl Try.type64 rfl rfl) rfl rfl ?_
        refine G_load rfl _ Try.underlying64 rfl rfl rfl (fun h hf hg => IsT.cell hf.2.2.2.2.1 3 rfl) ?_
        refine G_p (P_move rfl) rfl rfl ?_
        refine G_p (P_nil rfl) rfl rfl ?_
        refine G_p (P_fieldAddr rfl Try.underlying88 rfl Try.type64 rfl rfl) rfl rfl ?_
        refine G_load rfl _ Try.underlying64 rfl rfl rfl (fun h hf hg => IsT.cell hf.2.2 3 rfl) ?_
        refine G_fn Try.call40 rfl (c40 (l := r3) (r := rr) w3r wrr (by omega)) (fun h hf hg => ⟨hf.2.2, hf.2.2.2.2.1.2.2.2, hf.2.2.2.2.2⟩) rfl (fun _ _ z => z) (fun _ => inferInstance) rfl (fun v141 => ?_)
        refine G_tr (fun t141 e141 s141 => ?_)
        subst e141
        have w141 : t141.sh.Wf := by rw [s141]; exact joinS_wf w3r wrr
        have c141 : t141.sh.cnt = 1 + r3.sh.cnt + rr.sh.cnt := by rw [s141]; rfl
        refine G_fn Try.call40 rfl (c40 (l := t128) (r := t141) w128 w141 (by omega)) (fun h hf hg => ⟨hf.2.2.2.2.1, hg _ (List.mem_cons_of_mem _ (List.mem_cons_self ..)) (by kernel_rfl), hg _ (List.mem_cons_self ..) (by kernel_rfl)⟩) rfl (fun _ _ z => by rw [s128, s141] at z; exact z) (fun _ => inferInstance) rfl (fun v142 => ?_)
        refine G_nil ?_
        refine R_p Wide.wide (P_assign rfl) rfl rfl ?_
        refine JL_nil ?_
        refine J_ret ?_
        refine Fin.ret _ (.inl rfl) rfl (Reads.one rfl (RV.tmp rfl)) fun h hf => ?_
        unfold levelS
        rw [if_neg (show ¬ (T.node ra rkv rk (.node a3 kv3 k3 l3 r3 d3 m3) rr rd rm).sh.dp + 1 < l.sh.dp from of_decide_eq_false hb14), if_pos (show l.sh.dp + 1 < (T.node ra rkv rk (.node a3 kv3 k3 l3 r3 d3 m3) rr rd rm).sh.dp from of_decide_eq_true hb82), if_neg (show ¬ (T.node ra rkv rk (.node a3 kv3 k3 l3 r3 d3 m3) rr rd rm).sh.left.dp ≤ (T.node ra rkv rk (.node a3 kv3 k3 l3 r3 d3 m3) rr rd rm).sh.right.dp from of_decide_eq_false hb75)]
        exact hf.2.1
    · refine G_gn rfl rfl rfl rfl ?_
      refine G_gn rfl rfl rfl rfl ?_
      refine G_gn rfl rfl rfl rfl ?_
      refine G_gn rfl rfl rfl rfl ?_
      refine G_gn rfl rfl rfl rfl ?_
      refine G_gn rfl rfl rfl rfl ?_
      refine G_gn rfl rfl rfl rfl ?_
      refine G_gn rfl rfl rfl rfl ?_
      refine G_gn rfl rfl rfl rfl ?_
      refine G_nil0 ?_
      refine R_gn Wide.wide rfl rfl rfl rfl ?_
      refine R_p Wide.wide (P_pickf rfl rfl) rfl rfl ?_
      refine R_p Wide.wide (P_assign rfl) rfl rfl ?_
      refine JL_nil ?_
      refine J_iff rfl ?_
      refine J_rs ?_
      refine R_p Wide.wide (P_move rfl) rfl rfl ?_
      refine R_fv Wide.wide Try.call51 rfl c51 (fun h hf => hf.2.2) rfl ?_
      refine R_p Wide.wide (P_move rfl) rfl rfl ?_
      refine R_fv Wide.wide Try.call51 rfl c51 (fun h hf => hf.2.1) rfl ?_
      refine R_p Wide.wide (P_add rfl rfl (l.sh.dp + 1) (w64 (by omega))) rfl rfl ?_
      refine R_p Wide.wide (P_gtr rfl rfl) rfl rfl ?_
      refine R_p Wide.wide (P_assign rfl) rfl rfl ?_
      refine JL_nil ?_
      refine J_iff (congrArg (fun b => some (Value.bool b)) hb82) ?_
      refine J_skip ?_
      show J _ _ _ _ _ _
      refine J_rs ?_
      refine R_p Wide.wide (P_move rfl) rfl rfl ?_
      refine R_p Wide.wide (P_move rfl) rfl rfl ?_
      refine R_p Wide.wide (P_move rfl) rfl rfl ?_
      refine R_fn Wide.wide Try.call40 rfl (c40 (l := l) (r := r) wl wr (by omega)) (fun h hf => hf) (fun _ => inferInstance) rfl (fun v146 => ?_)
      refine R_p Wide.wide (P_assign rfl) rfl rfl ?_
      refine JL_nil ?_
      refine J_ret ?_
      refine Fin.ret _ (.inl rfl) rfl (Reads.one rfl (RV.tmp rfl)) fun h hf => ?_
      unfold levelS
      rw [if_neg (show ¬ r.sh.dp + 1 < l.sh.dp from of_decide_eq_false hb14), if_neg (show ¬ l.sh.dp + 1 < r.sh.dp from of_decide_eq_false hb82)]
      exact hf.2

end Go.Proofs.Ytgheodbcgddjlaa
