/- Walks: a tree's Range. -/
import Derived.Test.YtgheodbcgddjlaaS3
set_option linter.unusedVariables false
set_option linter.unusedSimpArgs false
namespace Go.Proofs.Ytgheodbcgddjlaa
open Go.RowKit Go.Grow Go.Hl Go.Ix

set_option maxRecDepth 100000 in
theorem c32 {v lv tv : Value} {t : T} {lo to : List UInt8} (hc : t.sh.cnt ≤ 200000) (hkl : ∀ x ∈ fromT lo t, x.key.length ≤ 100000000) : FnC Try.prog 32 [v, lv, tv, .int .i64 262144].toArray (fun h => Rt h v t ∧ Bs h lv lo ∧ Bs h tv to) (fun u h => ∃ kvs, Rd h u (rangeT lo to t).length (kvs.flatMap pairC) ∧ KVs h kvs ((rangeT lo to t).map T.key)) := by
  refine ct_of_JM (R := []) Try.func32 rfl inferInstance 49 Try.ntmps32 (Nat.le_of_ble_eq_true rfl) fun W0 h0 => ?_
  refine J_pure (p := tv.cells = #[tv]) (fun h hf => by rw [cells_clist, Bs.clist hf.2.2]) fun htv => ?_
  refine J_rs ?_
  refine R_box Wide.wide (cs := [tv]) rfl htv rfl (fun b6 => ?_)
  refine R_box Wide.wide rfl rfl rfl (fun b7 => ?_)
  refine R_p Wide.wide (P_assign rfl) rfl rfl ?_
  refine JL_nil ?_
  refine J_rs ?_
  refine R_alloc Wide.wide Try.type75 rfl rfl rfl (fun b9 => ?_)
  refine JL_nil ?_
  refine J_seq ?_
  refine J_rs ?_
  refine R_p Wide.wide (P_move rfl) rfl rfl ?_
  refine R_fv Wide.wide Try.call24 rfl c24 (fun h hf => hf.1) rfl ?_
  refine R_p Wide.wide (P_move rfl) rfl rfl ?_
  refine R_fn Wide.wide Try.call41 rfl (c41 (t := t) (lv := lv) (lo := lo)) (fun h hf => ⟨Rt.isT hf.1, hf.2.1⟩) (fun _ => inferInstance) rfl (fun v14 => ?_)
  refine JL_nil ?_
  refine J_block ?_
  refine J_ex (fun (p : Nat × Nat) h => v14 = .func (.func 52) #[] [.pointer (some ⟨p.1, 0, none⟩), .pointer (some ⟨p.2, 0, none⟩)].toArray ∧ Cp lv lo t p.1 p.2 h) (fun _ => inferInstance) (fun h hf => let ⟨x2, x3, e⟩ := hf.2; ⟨(x2, x3), e⟩) ?_
  rintro ⟨d2, d3⟩
  refine J_pure (fun h hf => hf.2.1) fun ee => ?_
  subst ee
  refine J_facts (fun h => (IsT h t ∧ KVs h [] [] ∧ Bs h tv to) ∧ Cp lv lo t d2 d3 h) (fun h hf => ⟨⟨Rt.isT hf.1.1.1, trivial, hf.1.1.2.2⟩, hf.2.2⟩) ?_
  refine J_ownnil 78 2 ?_
  refine J_range (gf := 52) (lb := [.pointer (some ⟨d2, 0, none⟩), .pointer (some ⟨d3, 0, none⟩)]) (encs := fun x : T => [x.ptr]) (xs := fromT lo t) (Rit := []) rfl Try.call52 (c52 t (c2 := d2) (c3 := d3)) (fun _ => inferInstance) (List.Perm.refl _) (fun h hf => hf.2) (fun _ => rfl) rfl
    (fun pre S => (∀ x ∈ pre, stopB to x = false) ∧ ∃ v kvs, kvs.length = pre.length ∧ S.res = [.own v 78 2 pre.length (kvs.flatMap pairC), .box b9 75 [v], .box b7 3 [.int .i64 262144], .box b6 49 [tv]] ∧ ∀ h, S.facts h → IsT h t ∧ KVs h kvs (pre.map T.key) ∧ Bs h tv to)
    (fun c pre' S => c = .exit 0 ∧ ∃ pre x, pre' = pre ++ [x] ∧ stopB to x = true ∧ (∀ x ∈ pre, stopB to x = false) ∧ ∃ v kvs, kvs.length = pre.length ∧ S.res = [.own v 78 2 pre.length (kvs.flatMap pairC), .box b9 75 [v], .box b7 3 [.int .i64 262144], .box b6 49 [tv]] ∧ ∀ h, S.facts h → IsT h t ∧ KVs h kvs (pre.map T.key) ∧ Bs h tv to)
    ⟨by simp, .slice none 0 0, [], rfl, rfl, fun h hf => hf.1⟩ (fun W h M ly E E' pre y suf S hxs hT => ?_) (fun S D R' hT hx => ?_) (fun S D c pre hpre hX => ?_)
  · obtain ⟨hstop, v, kvs, hkl2, hres, hres2⟩ := hT
    obtain ⟨ssl, sres, sfc, smn, sdf⟩ := S
    dsimp only at hres hres2 ⊢
    subst hres
    have hmem : y ∈ fromT lo t := by rw [hxs]; simp
    have hIs : ∀ h, sfc h → IsT h y := fun h hf => fromT_mem lo (hres2 h hf).1 hmem
    have hlen : pre.length < 200000 := by have h1 := congrArg List.length hxs; have h2 := fromT_length lo t; simp at h1; omega
    obtain ⟨a, kv, key, l, r, dp, mn, rfl⟩ := fromT_node lo hmem
    refine J_region ?_
    refine R_p (Wide.round ly) (P_assign rfl) rfl rfl ?_
    refine JL_nil ?_
    refine ⟨rfl, rfl, [.own v 78 2 pre.length (kvs.flatMap pairC), .box b9 75 [v], .box b7 3 [.int .i64 262144], .box b6 49 [tv]], rfl, ?_⟩
    refine J_block ?_
    refine J_seq ?_
    refine J_ds (Wide.round ly) 18 [(14, fun _ u _ => u = .int .i64 (cmpB key to))] rfl (by kernel_rfl) ?_
    refine G_loadb 1 rfl rfl _ Try.underlying75 rfl rfl rfl rfl ?_
    refine G_leno 0 rfl rfl Try.underlying75 rfl rfl ?_
    refine G_loadb 2 rfl rfl _ Try.underlying3 rfl rfl rfl rfl ?_
    refine G_p (P_geq rfl rfl) rfl rfl ?_
    refine G_p (P_move rfl) rfl rfl ?_
    refine G_gd rfl rfl rfl (fun hb20 => ?_) (fun hb20 => ?_)
    · refine G_loadb 3 rfl rfl _ Try.underlying49 rfl rfl rfl rfl ?_
      refine G_gy rfl rfl ?_
      refine G_lenf rfl (fun h hf => (hres2 h hf).2.2) Try.underlying49 rfl rfl ?_
      refine G_gy rfl rfl ?_
      refine G_p (P_gtr rfl rfl) rfl rfl ?_
      refine G_gy rfl rfl ?_
      refine G_p (P_move rfl) rfl rfl ?_
      refine G_gd rfl rfl rfl (fun hb24 => ?_) (fun hb24 => ?_)
      · refine G_p (P_move rfl) rfl rfl ?_
        refine G_gy rfl rfl ?_
        refine G_p (P_nil rfl) rfl rfl ?_
        refine G_gy rfl rfl ?_
        refine G_p (P_fieldAddr rfl Try.underlying88 rfl Try.type49 rfl rfl) rfl rfl ?_
        refine G_gy rfl rfl ?_
        refine G_load rfl _ Try.underlying49 rfl rfl rfl (fun h hf hg => IsT.cell (hIs h hf) 0 rfl) ?_
        refine G_gy rfl rfl ?_
        refine G_loadb 3 rfl rfl _ Try.underlying49 rfl rfl rfl rfl ?_
        refine G_gy rfl rfl ?_
        refine G_fv Try.call38 rfl (c38 (x := key) (y := to)) (fun h hf hg => ⟨(hIs h hf).2.1, (hres2 h hf).2.2⟩) rfl rfl ?_
        refine G_gy rfl rfl ?_
        refine G_p (P_geq rfl rfl) rfl rfl ?_
        refine G_gy rfl rfl ?_
        refine G_p (P_pickt rfl rfl) rfl rfl ?_
        refine G_p (P_pickf rfl rfl) rfl rfl ?_
        refine G_nil0 ?_
        refine JL_nil ?_
        refine J_ifs rfl (fun hb33 => ?_) (fun hb33 => ?_)
        · refine J_exit ?_
          exact ⟨⟨[], [.own v 78 2 pre.length (kvs.flatMap pairC), .box b9 75 [v], .box b7 3 [.int .i64 262144], .box b6 49 [tv]], sfc, smn, []⟩, ⟨rfl, pre, _, rfl, by show (decide ((0 : Int) < to.length) && decide (0 ≤ cmpB key to)) = true; rw [hb24, hb33]; rfl, hstop, v, kvs, hkl2, rfl, hres2⟩, Le.mk trivial rfl rfl fun _ h => h⟩
        · refine J_skip ?_
          show J _ _ _ _ _ _
          refine J_drawn (Wide.round ly) 13 [(5, fun _ u h => Bs h u key), (10, fun _ u _ => u = .slice none 0 0), (12, fun _ v h => ∃ b u, v = .slice (some ⟨b, 0, none⟩) 1 1 ∧ h b = some (.cells (pairC u).toArray 78 (0, 0)) ∧ Bs h u key)] rfl (by kernel_rfl) ?_
          refine G_loadb 1 rfl rfl _ Try.underlying75 rfl rfl rfl rfl ?_
          refine G_p (P_move rfl) rfl rfl ?_
          refine G_p (P_nil rfl) rfl rfl ?_
          refine G_p (P_fieldAddr rfl Try.underlying88 rfl Try.type49 rfl rfl) rfl rfl ?_
          refine G_load rfl _ Try.underlying49 rfl rfl rfl (fun h hf hg => IsT.cell (hIs h hf) 0 rfl) ?_
          refine G_fn Try.call28 rfl (c28 (l := key) (hkl _ hmem)) (fun h hf hg => (hIs h hf).2.1) rfl (fun _ _ z => z) (fun _ => inferInstance) rfl (fun v39 => ?_)
          refine G_pure (p := clist v39 = [v39] ∧ v39.oneCell' = true) (fun h hf => Bs.one2 hf) (fun ⟨hk39, ho39⟩ => ?_)
          refine G_p (P_move rfl) rfl rfl ?_
          refine G_p (P_nil rfl) rfl rfl ?_
          refine G_p (P_fieldAddr rfl Try.underlying88 rfl Try.type49 rfl rfl) rfl rfl ?_
          refine G_load rfl _ Try.underlying49 rfl rfl rfl (fun h hf hg => IsT.cell (hIs h hf) 1 rfl) ?_
          refine G_fv Try.call28 rfl c28n (fun h hf hg => trivial) rfl rfl ?_
          refine G_p (P_build [1, 1] Try.underlying78 Try.type78 rfl rfl (ivs := [(0, v39), (1, .slice none 0 0)]) (cs := pairC v39) rfl (by
            have e3 : ∀ b n c, clist (.slice b n c) = [.slice b n c] := fun _ _ _ => rfl
            have e5 : ∀ cs, clist (.agg cs) = cs.toList := fun _ => rfl
            simp [lfill, place2, hk39, e3, e5, pairC])) rfl rfl ?_
          refine G_newx (fun b => .slice (some ⟨b, 0, none⟩) 1 1) (cs := pairC v39) (fun ρ hρ w => run_bslice Try.underlying75 Try.type78 rfl (ivs := [(0, .agg (pairC v39).toArray)]) rfl rfl rfl ρ hρ w) rfl (fun h b hf hg hb => ⟨b, v39, rfl, hb, hg _ (List.mem_cons_of_mem _ (List.mem_cons_self ..)) (by kernel_rfl)⟩) (fun _ => inferInstance) rfl (fun v46 => ?_)
          refine G_ex (fun _ => inferInstance) fun b46 => ?_
          refine G_ex (fun _ => inferInstance) fun u => ?_
          refine G_pure (p := v46 = .slice (some ⟨b46, 0, none⟩) 1 1 ∧ clist u = [u] ∧ u.oneCell' = true) (fun h hf => ⟨hf.1, Bs.one2 hf.2.2⟩) (fun ⟨e46, hk46, ho46⟩ => ?_)
          subst e46
          refine G_nil ?_
          refine R_append (Wide.round ly) 0 rfl rfl rfl Try.underlying75 Try.type78 rfl rfl rfl rfl (Src.fact fun h hf j u hj => by rw [add_none]; exact RdC.of_cells hf.2.1.2.1 j u hj) rfl (by simp only [pairC, List.all_cons, List.all_nil, ho46]; rfl) (by omega) rfl rfl (fun v47 => ?_)
          refine JL_own1 0 rfl (fun h47 g47 => ?_)
          refine R_store (Wide.round ly) 1 (vs := [v47]) rfl rfl rfl h47 Try.type75 rfl (Nat.le_of_ble_eq_true rfl) (by simp [g47]) rfl rfl ?_
          refine JL_nil ?_
          exact ⟨⟨[], [.own v47 78 2 (pre.length + 1) ((kvs ++ [u]).flatMap pairC), .box b9 75 [v47], .box b7 3 [.int .i64 262144], .box b6 49 [tv]], fun h => sfc h ∧ Bs h u key, ⟨fun hle z => ⟨smn.le hle z.1, Mono.le (F := fun h => Bs h u key) hle z.2⟩⟩, []⟩, ⟨fun x hx => by
              rcases List.mem_append.1 hx with hx | hx
              · exact hstop x hx
              · rw [List.mem_singleton.1 hx]; show (decide ((0 : Int) < to.length) && decide (0 ≤ cmpB key to)) = false; first | (rw [hb33, Bool.and_false]; done) | (rw [hb24]; rfl),
            v47, kvs ++ [u], by simp [hkl2], by simp, fun h hf => ⟨(hres2 h hf.1).1, by rw [List.map_append]; exact KVs.snoc hf.2 (hres2 h hf.1).2.1, (hres2 h hf.1).2.2⟩⟩, Le.mk trivial (by show [Res.own _ _ _ _ _, _, _, _] ++ E' = _; simp [pairC]) rfl fun h hf => ⟨hf.1, hf.2.1.2.2⟩⟩
      · refine G_gn rfl rfl rfl rfl ?_
        refine G_gn rfl rfl rfl rfl ?_
        refine G_gn rfl rfl rfl rfl ?_
        refine G_gn rfl rfl rfl rfl ?_
        refine G_gn rfl rfl rfl rfl ?_
        refine G_gn rfl rfl rfl rfl ?_
        refine G_gy rfl rfl ?_
        refine G_p (P_pickf rfl rfl) rfl rfl ?_
        refine G_p (P_pickf rfl rfl) rfl rfl ?_
        refine G_nil0 ?_
        refine JL_nil ?_
        refine J_iff rfl ?_
        refine J_skip ?_
        show J _ _ _ _ _ _
        refine J_drawn (Wide.round ly) 13 [(5, fun _ u h => Bs h u key), (10, fun _ u _ => u = .slice none 0 0), (12, fun _ v h => ∃ b u, v = .slice (some ⟨b, 0, none⟩) 1 1 ∧ h b = some (.cells (pairC u).toArray 78 (0, 0)) ∧ Bs h u key)] rfl (by kernel_rfl) ?_
        refine G_loadb 1 rfl rfl _ Try.underlying75 rfl rfl rfl rfl ?_
        refine G_p (P_move rfl) rfl rfl ?_
        refine G_p (P_nil rfl) rfl rfl ?_
        refine G_p (P_fieldAddr rfl Try.underlying88 rfl Try.type49 rfl rfl) rfl rfl ?_
        refine G_load rfl _ Try.underlying49 rfl rfl rfl (fun h hf hg => IsT.cell (hIs h hf) 0 rfl) ?_
        refine G_fn Try.call28 rfl (c28 (l := key) (hkl _ hmem)) (fun h hf hg => (hIs h hf).2.1) rfl (fun _ _ z => z) (fun _ => inferInstance) rfl (fun v39 => ?_)
        refine G_pure (p := clist v39 = [v39] ∧ v39.oneCell' = true) (fun h hf => Bs.one2 hf) (fun ⟨hk39, ho39⟩ => ?_)
        refine G_p (P_move rfl) rfl rfl ?_
        refine G_p (P_nil rfl) rfl rfl ?_
        refine G_p (P_fieldAddr rfl Try.underlying88 rfl Try.type49 rfl rfl) rfl rfl ?_
        refine G_load rfl _ Try.underlying49 rfl rfl rfl (fun h hf hg => IsT.cell (hIs h hf) 1 rfl) ?_
        refine G_fv Try.call28 rfl c28n (fun h hf hg => trivial) rfl rfl ?_
        refine G_p (P_build [1, 1] Try.underlying78 Try.type78 rfl rfl (ivs := [(0, v39), (1, .slice none 0 0)]) (cs := pairC v39) rfl (by
          have e3 : ∀ b n c, clist (.slice b n c) = [.slice b n c] := fun _ _ _ => rfl
          have e5 : ∀ cs, clist (.agg cs) = cs.toList := fun _ => rfl
          simp [lfill, place2, hk39, e3, e5, pairC])) rfl rfl ?_
        refine G_newx (fun b => .slice (some ⟨b, 0, none⟩) 1 1) (cs := pairC v39) (fun ρ hρ w => run_bslice Try.underlying75 Try.type78 rfl (ivs := [(0, .agg (pairC v39).toArray)]) rfl rfl rfl ρ hρ w) rfl (fun h b hf hg hb => ⟨b, v39, rfl, hb, hg _ (List.mem_cons_of_mem _ (List.mem_cons_self ..)) (by kernel_rfl)⟩) (fun _ => inferInstance) rfl (fun v46 => ?_)
        refine G_ex (fun _ => inferInstance) fun b46 => ?_
        refine G_ex (fun _ => inferInstance) fun u => ?_
        refine G_pure (p := v46 = .slice (some ⟨b46, 0, none⟩) 1 1 ∧ clist u = [u] ∧ u.oneCell' = true) (fun h hf => ⟨hf.1, Bs.one2 hf.2.2⟩) (fun ⟨e46, hk46, ho46⟩ => ?_)
        subst e46
        refine G_nil ?_
        refine R_append (Wide.round ly) 0 rfl rfl rfl Try.underlying75 Try.type78 rfl rfl rfl rfl (Src.fact fun h hf j u hj => by rw [add_none]; exact RdC.of_cells hf.2.1.2.1 j u hj) rfl (by simp only [pairC, List.all_cons, List.all_nil, ho46]; rfl) (by omega) rfl rfl (fun v47 => ?_)
        refine JL_own1 0 rfl (fun h47 g47 => ?_)
        refine R_store (Wide.round ly) 1 (vs := [v47]) rfl rfl rfl h47 Try.type75 rfl (Nat.le_of_ble_eq_true rfl) (by simp [g47]) rfl rfl ?_
        refine JL_nil ?_
        exact ⟨⟨[], [.own v47 78 2 (pre.length + 1) ((kvs ++ [u]).flatMap pairC), .box b9 75 [v47], .box b7 3 [.int .i64 262144], .box b6 49 [tv]], fun h => sfc h ∧ Bs h u key, ⟨fun hle z => ⟨smn.le hle z.1, Mono.le (F := fun h => Bs h u key) hle z.2⟩⟩, []⟩, ⟨fun x hx => by
            rcases List.mem_append.1 hx with hx | hx
            · exact hstop x hx
            · rw [List.mem_singleton.1 hx]; show (decide ((0 : Int) < to.length) && decide (0 ≤ cmpB key to)) = false; first | (rw [hb33, Bool.and_false]; done) | (rw [hb24]; rfl),
          v47, kvs ++ [u], by simp [hkl2], by simp, fun h hf => ⟨(hres2 h hf.1).1, by rw [List.map_append]; exact KVs.snoc hf.2 (hres2 h hf.1).2.1, (hres2 h hf.1).2.2⟩⟩, Le.mk trivial (by show [Res.own _ _ _ _ _, _, _, _] ++ E' = _; simp [pairC]) rfl fun h hf => ⟨hf.1, hf.2.1.2.2⟩⟩
    · refine G_gn rfl rfl rfl rfl ?_
      refine G_gn rfl rfl rfl rfl ?_
      refine G_gn rfl rfl rfl rfl ?_
      refine G_gu rfl rfl rfl ?_
      refine G_gu rfl rfl rfl ?_
      refine G_gu rfl rfl rfl ?_
      refine G_gu rfl rfl rfl ?_
      refine G_gu rfl rfl rfl ?_
      refine G_gu rfl rfl rfl ?_
      refine G_gu rfl rfl rfl ?_
      refine G_gn rfl rfl rfl rfl ?_
      refine G_p (P_pickt rfl rfl) rfl rfl ?_
      refine G_nil0 ?_
      refine JL_nil ?_
      refine J_ift rfl ?_
      refine J_exit ?_
      exfalso
      have h9 := of_decide_eq_true hb20
      omega
  · obtain ⟨hstop, v, kvs, hkl2, hres, hres2⟩ := hT
    obtain ⟨ssl, sres, sfc, smn, sdf⟩ := S
    dsimp only at hres hres2 ⊢
    subst hres
    show J _ _ _ _ _ _
    obtain ⟨_, _, rfl⟩ := hx
    have hfin : rangeT lo to t = fromT lo t := takeWhile_all fun x hx => by rw [hstop x hx]; rfl
    refine J_facts (fun h => KVs h kvs ((fromT lo t).map T.key)) (fun h hf => (hres2 h hf.1).2.1) ?_
    refine J_res [.own v 78 2 (fromT lo t).length (kvs.flatMap pairC), .box b9 75 [v], .box b7 3 [.int .i64 262144], .box b6 49 [tv], .obj D shut] rfl ?_
    refine J_rs ?_
    refine R_loadb Wide.wide 1 rfl rfl _ Try.underlying75 rfl rfl rfl ?_
    refine R_p Wide.wide (P_assign rfl) rfl rfl ?_
    refine JL_nil ?_
    refine J_pubown (v := v) [] [.box b9 75 [v], .box b7 3 [.int .i64 262144], .box b6 49 [tv], .obj D shut] rfl ?_
    refine J_ret ?_
    refine FinM.cons _ (.inl rfl) [D] (res' := [.box b9 75 [v], .box b7 3 [.int .i64 262144], .box b6 49 [tv]]) (R' := []) _ rfl (List.perm_append_comm (l₁ := [Res.box b9 75 [v], .box b7 3 [.int .i64 262144], .box b6 49 [tv]]) (l₂ := [Res.obj D shut])) (List.Perm.refl _) (Reads.one rfl (RV.tmp rfl)) fun h hf => ⟨rfl, kvs, ?_, ?_⟩
    · have h1 := Row.rd hf.2
      rw [hfin]
      exact h1
    · rw [hfin]
      exact hf.1
  · obtain ⟨rfl, pre, x, rfl, hst, hstop, v, kvs, hkl2, hres, hres2⟩ := hX
    obtain ⟨suf, hsuf⟩ := hpre
    obtain ⟨ssl, sres, sfc, smn, sdf⟩ := S
    dsimp only at hres hres2 ⊢
    subst hres
    refine J_exit ?_
    show J _ _ _ _ _ _
    have hfin : rangeT lo to t = pre := by
      have e : fromT lo t = pre ++ x :: suf := by rw [← hsuf]; simp
      unfold rangeT; rw [e]
      exact takeWhile_stop (fun y hy => by rw [hstop y hy]; rfl) (by rw [hst]; rfl)
    refine J_facts (fun h => KVs h kvs (pre.map T.key)) (fun h hf => (hres2 h hf).2.1) ?_
    refine J_res [.own v 78 2 pre.length (kvs.flatMap pairC), .box b9 75 [v], .box b7 3 [.int .i64 262144], .box b6 49 [tv], .obj D shut] rfl ?_
    refine J_rs ?_
    refine R_loadb Wide.wide 1 rfl rfl _ Try.underlying75 rfl rfl rfl ?_
    refine R_p Wide.wide (P_assign rfl) rfl rfl ?_
    refine JL_nil ?_
    refine J_pubown (v := v) [] [.box b9 75 [v], .box b7 3 [.int .i64 262144], .box b6 49 [tv], .obj D shut] rfl ?_
    refine J_ret ?_
    refine FinM.cons _ (.inl rfl) [D] (res' := [.box b9 75 [v], .box b7 3 [.int .i64 262144], .box b6 49 [tv]]) (R' := []) _ rfl (List.perm_append_comm (l₁ := [Res.box b9 75 [v], .box b7 3 [.int .i64 262144], .box b6 49 [tv]]) (l₂ := [Res.obj D shut])) (List.Perm.refl _) (Reads.one rfl (RV.tmp rfl)) fun h hf => ⟨rfl, kvs, ?_, ?_⟩
    · have h1 := Row.rd hf.2
      rw [hfin]
      exact h1
    · rw [hfin]
      exact hf.1

end Go.Proofs.Ytgheodbcgddjlaa
