/- Walks: Add. -/
import Derived.Test.YtgheodbcgddjlaaS9
set_option linter.unusedVariables false
set_option linter.unusedSimpArgs false
namespace Go.Proofs.Ytgheodbcgddjlaa
open Go.RowKit Go.Grow Go.Hl Go.Ix

set_option maxRecDepth 100000 in
theorem c6 {xv lv : Value} {ts : Nat → T} {l : List D} (hwf : ∀ o, (ts o).sh.Wf) (hc : ∀ o, (ts o).sh.cnt ≤ 100000) (hl : l.length ≤ 10000) (hs : ∀ d ∈ l, d.v.s.length ≤ 1000000) : FnC Try.prog 6 [xv, lv].toArray (fun h => Ixp h xv ts ∧ RdD h lv l) (fun u h => (l.all okAdd = false ∧ u = .tuple #[.pointer none, .int .i64 110]) ∨ (l.all okAdd = true ∧ ∃ v ts', u = .tuple #[v, .int .i64 0] ∧ Ixp h v ts' ∧ ∀ o, (ts' o).sh = addL (fun o => (ts o).sh) l o)) := by
  refine fn_of_J Try.func6 rfl inferInstance 69 Try.ntmps6 (Nat.le_of_ble_eq_true rfl) fun W0 h0 => ?_
  refine J_rs ?_
  refine R_p Wide.wide (P_assign rfl) rfl rfl ?_
  refine R_p Wide.wide (P_assign rfl) rfl rfl ?_
  refine JL_nil ?_
  refine J_rs ?_
  refine R_p Wide.wide (P_build [5] Try.underlying47 Try.type47 rfl rfl (ivs := []) (cs := [.pointer none, .pointer none, .pointer none, .pointer none, .pointer none]) rfl rfl) rfl rfl ?_
  refine R_box Wide.wide rfl rfl rfl (fun b14 => ?_)
  refine R_p Wide.wide (P_assign rfl) rfl rfl ?_
  refine JL_nil ?_
  refine J_mids (ι := {vs : List Value // vs.length = 5}) (fun vs => ⟨[(1, lv), (6, .pointer (some ⟨b14, 0, none⟩))], [.box b14 47 vs.1], fun h => RdD h lv l ∧ Ixc h vs.1 ts, inferInstance, []⟩) ?_ (fun mi => ?_)
  · refine J_rs ?_
    refine R_p Wide.wide (P_move rfl) rfl rfl ?_
    refine JL_or (G1 := fun _ => xv = .pointer none ∧ ∀ i, ts i = .nil) (G2 := fun h => ∃ (a : Nat) (vs : List Value), xv = .pointer (some ⟨a, 0, none⟩) ∧ h a = some (.cells vs.toArray 47 (0, 0)) ∧ Ixc h vs ts) inferInstance inferInstance (fun h hf => hf.1) ?_ ?_
    · refine JL_fact (fun h hf => hf.2) fun e11 => ?_
      obtain ⟨rfl, ets⟩ := e11
      refine R_p Wide.wide (P_nen rfl rfl Try.underlying25) rfl rfl ?_
      refine JL_nil ?_
      refine J_iff rfl ?_
      refine J_skip ?_
      exact ⟨⟨[.pointer none, .pointer none, .pointer none, .pointer none, .pointer none], rfl⟩, Le.mk ⟨rfl, rfl, trivial⟩ rfl rfl fun _ hf => ⟨hf.1.2, rfl, fun i hi => .inl ⟨by match i, hi with | 0, _ => rfl | 1, _ => rfl | 2, _ => rfl | 3, _ => rfl | 4, _ => rfl, ets i⟩⟩⟩
    · refine JL_ex (fun (q : Nat × List Value) h => xv = .pointer (some ⟨q.1, 0, none⟩) ∧ h q.1 = some (.cells q.2.toArray 47 (0, 0)) ∧ Ixc h q.2 ts) (fun _ => inferInstance) (fun h hf => let ⟨a, vs, e⟩ := hf.2; ⟨(a, vs), e⟩) ?_
      rintro ⟨ai, vs⟩
      refine JL_fact (fun h hf => hf.2.1) fun e11 => ?_
      subst e11
      refine JL_fact (fun h hf => hf.2.2.2.1) fun hvl0 => ?_
      have hvl : vs.length = 5 := hvl0
      refine JL_fact (fun h hf => hf.2.2.2.one) fun hone => ?_
      refine R_p Wide.wide (P_nen rfl rfl Try.underlying25) rfl rfl ?_
      refine JL_nil ?_
      refine J_ift rfl ?_
      refine J_region ?_
      refine R_p Wide.wide (P_move rfl) rfl rfl ?_
      refine R_p Wide.wide (P_move rfl) rfl rfl ?_
      refine R_p Wide.wide (P_nil rfl) rfl rfl ?_
      refine R_p Wide.wide (P_fieldAddr rfl Try.underlying47 rfl Try.type45 rfl rfl) rfl rfl ?_
      refine R_loads Wide.wide (cs := vs) rfl _ Try.underlying45 rfl Try.type45 hvl.symm rfl (fun h hf j u hj => by rw [add_none]; exact RdC.of_cells hf.2.2.1 j u hj) ?_
      refine R_p Wide.wide (P_nil rfl) rfl rfl ?_
      refine R_p Wide.wide (P_fieldAddr rfl Try.underlying47 rfl Try.type45 rfl rfl) rfl rfl ?_
      refine R_store Wide.wide 0 (vs := vs) (cs' := vs) rfl rfl rfl rfl Try.type45 hvl.symm (by rw [hvl]; exact Nat.le_refl _) hone (by simp [hvl]) rfl ?_
      refine JL_nil ?_
      exact ⟨⟨vs, hvl⟩, Le.mk ⟨rfl, rfl, trivial⟩ rfl rfl fun _ hf => ⟨hf.1.1.2, hf.2.2.2⟩⟩
  · obtain ⟨vs0, hv0⟩ := mi
    dsimp only
    refine J_seq ?_
    refine J_rs ?_
    refine R_p Wide.wide (P_move rfl) rfl rfl ?_
    refine R_lenf Wide.wide rfl (fun h hf => hf.1) Try.underlying22 rfl ?_
    refine R_p Wide.wide (P_move rfl) rfl rfl ?_
    refine JL_nil ?_
    refine J_block ?_
    refine J_round (ι := {p : Nat × List Value × (Nat → T) // p.1 ≤ l.length ∧ p.2.1.length = 5 ∧ (l.take p.1).all okAdd = true ∧ ∀ o, (p.2.2 o).sh = addL (fun o => (ts o).sh) (l.take p.1) o}) (fun p => ⟨[(6, .pointer (some ⟨b14, 0, none⟩)), (24, lv), (25, .int .i64 l.length), (26, .int .i64 (p.1.1 : Nat))], [.box b14 47 p.1.2.1], fun h => RdD h lv l ∧ Ixc h p.1.2.1 p.1.2.2, inferInstance, []⟩) (fun p => l.length - p.1.1) ⟨(0, vs0, ts), Nat.zero_le _, hv0, rfl, fun _ => rfl⟩ (Le.mk ⟨rfl, rfl, rfl, rfl, trivial⟩ rfl rfl fun _ hf => hf) ?_
    rintro ⟨⟨i, vs, tt⟩, hi, hvl, hok, hsh⟩
    dsimp only at hi hvl hok hsh ⊢
    refine J_rs ?_
    refine R_p Wide.wide (P_lss rfl rfl) rfl rfl ?_
    refine JL_nil ?_
    refine J_seq ?_
    refine J_ifs rfl (fun hb27 => ?_) (fun hb27 => ?_)
    · refine J_skip ?_
      show J _ _ _ _ _ _
      refine J_seq ?_
      refine J_block ?_
      refine J_rs ?_
      have hlt : i < l.length := by have := of_decide_eq_true hb27; omega
      have hget : l[i]? = some l[i] := List.getElem?_eq_getElem _
      have htk : l.take (i + 1) = l.take i ++ [l[i]] := take_next hlt
      have hmem : l[i] ∈ l := List.getElem_mem _
      have hsd : l[i].v.s.length ≤ 1000000 := hs _ hmem
      generalize l[i] = d at hget htk hmem hsd
      refine R_indexf Wide.wide rfl rfl (fun h hf => hf.1) hlt Try.underlying22 Try.type43 rfl rfl (fun b28 off28 => ?_)
      refine R_loads Wide.wide (cs := d.cells) rfl _ Try.underlying43 rfl Try.type43 rfl rfl (fun h hf => RdC.elem hf.2 D.cells_length hget) ?_
      refine R_alloc Wide.wide Try.type43 rfl rfl rfl (fun b8 => ?_)
      refine R_store Wide.wide 0 (vs := d.cells) rfl rfl rfl rfl Try.type43 rfl (Nat.le_of_ble_eq_true rfl) rfl (cs' := d.cells) rfl rfl ?_
      refine JL_nil ?_
      refine J_seq ?_
      refine J_rs ?_
      refine R_loadbs Wide.wide 0 (vs := d.cells) rfl rfl _ Try.underlying43 rfl Try.type43 rfl rfl rfl ?_
      refine R_fv Wide.wide Try.call12 rfl (c12 hsd) (fun h hf => trivial) rfl ?_
      refine R_p Wide.wide (P_nei rfl rfl) rfl rfl ?_
      refine JL_nil ?_
      refine J_ifs rfl (fun hb32 => ?_) (fun hb32 => ?_)
      · refine J_rs ?_
        refine R_p Wide.wide (P_assign rfl) rfl rfl ?_
        refine R_p Wide.wide (P_assign rfl) rfl rfl ?_
        refine JL_nil ?_
        refine J_ret ?_
        refine Fin.ret _ (.inl rfl) rfl (Reads.two rfl (RV.tmp rfl) (RV.tmp rfl)) fun h hf => .inl ⟨?_, rfl⟩
        rw [List.all_eq_false]
        exact ⟨d, hmem, by have h1 := hb32; cases hm : mayD d <;> simp_all [okAdd]⟩
      · refine J_skip ?_
        show J _ _ _ _ _ _
        refine J_rs ?_
        refine R_p Wide.wide (P_assign rfl) rfl rfl ?_
        refine JL_nil ?_
        refine J_block ?_
        refine J_round (ι := {q : Nat × List Value × (Nat → T) // 1 ≤ q.1 ∧ q.1 ≤ 5 ∧ q.2.1.length = 5 ∧ (∀ o : Nat, 1 ≤ o → o < q.1 → keyOk o d = true → (keyD o d).length ≤ 4096) ∧ ∀ o, (q.2.2 o).sh = putN q.1 (addL (fun o => (ts o).sh) (l.take i)) d o}) (fun q => ⟨[(6, .pointer (some ⟨b14, 0, none⟩)), (8, .pointer (some ⟨b8, 0, none⟩)), (9, .int .i64 (q.1.1 : Nat)), (24, lv), (25, .int .i64 l.length), (26, .int .i64 (i : Nat))], [.box b8 43 d.cells, .box b14 47 q.1.2.1], fun h => RdD h lv l ∧ Ixc h q.1.2.1 q.1.2.2, inferInstance, []⟩) (fun q => 5 - q.1.1) ⟨(1, vs, tt), Nat.le_refl _, by omega, hvl, fun o h1 h2 => by omega, fun o => by rw [putN_one]; exact hsh o⟩ (Le.mk ⟨rfl, rfl, rfl, rfl, rfl, rfl, trivial⟩ rfl rfl fun _ hf => hf.1) ?_
        clear hvl hsh
        rintro ⟨⟨o, vs, tt⟩, ho1, ho, hvl, hsm, hsh⟩
        dsimp only at ho1 ho hvl hsm hsh ⊢
        refine J_seq ?_
        refine J_rs ?_
        refine R_p Wide.wide (P_move rfl) rfl rfl ?_
        refine R_p Wide.wide (P_leq rfl rfl) rfl rfl ?_
        refine JL_nil ?_
        refine J_ifs rfl (fun hb34 => ?_) (fun hb34 => ?_)
        · refine J_skip ?_
          show J _ _ _ _ _ _
          refine J_seq ?_
          refine J_block ?_
          refine J_rs ?_
          have ho4 : o ≤ 4 := by have := of_decide_eq_true hb34; omega
          refine R_p Wide.wide (P_move rfl) rfl rfl ?_
          refine R_loadbs Wide.wide 0 (vs := d.cells) rfl rfl _ Try.underlying43 rfl Try.type43 rfl rfl rfl ?_
          refine R_fn Wide.wide Try.call13 rfl (c13 (x := ((o : Nat) : Int)) (d := d) hsd) (fun h hf => trivial) (fun _ => inferInstance) rfl (fun v40 => ?_)
          refine JL_ex (fun (w : Value) h => v40 = .tuple #[w, .int .i64 (keyE o d)] ∧ Bs h w (keyD o d)) (fun _ => inferInstance) (fun h hf => hf.2) fun w40 => ?_
          refine JL_fact (fun h hf => hf.2.1) fun e40 => ?_
          subst e40
          refine R_p Wide.wide (P_move rfl) rfl rfl ?_
          refine R_p Wide.wide (P_extract rfl rfl) rfl rfl ?_
          refine R_p Wide.wide (P_extract rfl rfl) rfl rfl ?_
          refine R_p Wide.wide (P_assign rfl) rfl rfl ?_
          refine R_p Wide.wide (P_assign rfl) rfl rfl ?_
          refine JL_nil ?_
          refine J_seq ?_
          refine J_rs ?_
          refine R_p Wide.wide (P_move rfl) rfl rfl ?_
          refine R_p Wide.wide (P_nei rfl rfl) rfl rfl ?_
          refine JL_nil ?_
          refine J_ifs rfl (fun hb44 => ?_) (fun hb44 => ?_)
          · refine J_exit ?_
            show J _ _ _ _ _ _
            refine J_region ?_
            refine R_p Wide.wide (P_move rfl) rfl rfl ?_
            refine R_p Wide.wide (P_add rfl rfl ((o + 1 : Nat) : Int) (w64x (by omega) (by omega))) rfl rfl ?_
            refine R_p Wide.wide (P_assign rfl) rfl rfl ?_
            refine JL_nil ?_
            have hko : keyOk o d = false := by
              cases hk : keyOk o d
              · rfl
              · have h1 := hb44; rw [keyE_zero.2 hk] at h1; simp at h1
            exact ⟨⟨(o + 1, vs, tt), by omega, by omega, hvl, fun j h1 h2 hk => by
              by_cases e : j = o
              · subst e; rw [hko] at hk; cases hk
              · exact hsm j h1 (by omega) hk, fun j => by rw [putN_succ_no hko]; exact hsh j⟩, by simp only; omega, Le.mk ⟨rfl, rfl, rfl, rfl, rfl, rfl, trivial⟩ rfl rfl fun _ hf => hf.1.1⟩
          · refine J_skip ?_
            show J _ _ _ _ _ _
            refine J_rs ?_
            have hko : keyOk o d = true := keyE_zero.1 (by have h1 := hb44; simp at h1; exact h1)
            have hvo : vs[0 + o * 1]? = some (vs.getD o undef) := by rw [Nat.zero_add, Nat.mul_one, List.getD_eq_getElem?_getD, List.getElem?_eq_getElem (by omega)]; rfl
            have hwo := putN_wf (n := o) (d := d) (o := o) (addL_wf (l.take i) (ss := fun o => (ts o).sh) (o := o) (hwf o)).1
            have hwc := (addL_wf (l.take i) (ss := fun o => (ts o).sh) (o := o) (hwf o)).2
            have hlc := hc o
            rw [← hsh] at hwo
            have hwfo := hwo.1
            have hcno : (tt o).sh.cnt ≤ 900000 := by have h1 := hwo.2; have h2 := List.length_take_le i l; omega
            refine R_p Wide.wide (P_move rfl) rfl rfl ?_
            refine R_p Wide.wide (P_move rfl) rfl rfl ?_
            refine R_p Wide.wide (P_nil rfl) rfl rfl ?_
            refine R_p Wide.wide (P_fieldAddr rfl Try.underlying47 rfl Try.type45 rfl rfl) rfl rfl ?_
            refine R_p Wide.wide (P_indexArr (i := o) rfl rfl Try.underlying45 Try.type44 rfl (by omega)) rfl rfl ?_
            refine R_loadb Wide.wide 1 (v := vs.getD o undef) rfl rfl _ Try.underlying44 rfl hvo rfl ?_
            refine R_p Wide.wide (P_move rfl) rfl rfl ?_
            refine R_fn Wide.wide Try.call14 rfl (c14 (kv := w40) (t := tt o) (key := keyD o d) hwfo hcno (Nat.le_trans (keyD_length _ _) (by omega))) (fun h hf => ⟨hf.1.1.2.2 o (by omega), hf.2.2⟩) (fun _ => inferInstance) rfl (fun v53 => ?_)
            refine JL_or (G1 := fun _ => 4096 < (keyD o d).length ∧ v53 = .tuple #[.pointer none, .int .i64 100]) (G2 := fun h => (keyD o d).length ≤ 4096 ∧ ∃ w t', v53 = .tuple #[w, .int .i64 0] ∧ Rt h w t' ∧ t'.sh = putS (keyD o d) (tt o).sh) inferInstance inferInstance (fun h hf => hf.2) ?_ ?_
            · refine JL_fact (fun h hf => hf.2) fun e53 => ?_
              obtain ⟨hbig, rfl⟩ := e53
              refine R_p Wide.wide (P_move rfl) rfl rfl ?_
              refine R_p Wide.wide (P_extract rfl rfl) rfl rfl ?_
              refine R_p Wide.wide (P_extract rfl rfl) rfl rfl ?_
              refine R_p Wide.wide (P_assign rfl) rfl rfl ?_
              refine R_p Wide.wide (P_assign rfl) rfl rfl ?_
              refine JL_nil ?_
              refine J_seq ?_
              refine J_rs ?_
              refine R_p Wide.wide (P_move rfl) rfl rfl ?_
              refine R_p Wide.wide (P_nei rfl rfl) rfl rfl ?_
              refine JL_nil ?_
              refine J_ift rfl ?_
              refine J_rs ?_
              refine R_p Wide.wide (P_assign rfl) rfl rfl ?_
              refine R_p Wide.wide (P_assign rfl) rfl rfl ?_
              refine JL_nil ?_
              refine J_ret ?_
              refine Fin.ret _ (.inl rfl) rfl (Reads.two rfl (RV.tmp rfl) (RV.tmp rfl)) fun h hf => .inl ⟨?_, rfl⟩
              rw [List.all_eq_false]
              refine ⟨d, hmem, fun hk => ?_⟩
              simp only [okAdd, Bool.and_eq_true, List.all_eq_true, Bool.or_eq_true, Bool.not_eq_true', decide_eq_true_eq] at hk
              have h2 := hk.2 (o : Int) (by
                have h3 : o = 1 ∨ o = 2 ∨ o = 3 ∨ o = 4 := by omega
                rcases h3 with rfl | rfl | rfl | rfl <;> simp)
              rw [hko] at h2
              rcases h2 with h2 | h2
              · cases h2
              · omega
            · refine JL_fact (fun h hf => hf.2.1) fun hsm0 => ?_
              refine JL_ex (fun (q : Value × T) h => v53 = .tuple #[q.1, .int .i64 0] ∧ Rt h q.1 q.2 ∧ q.2.sh = putS (keyD o d) (tt o).sh) (fun _ => inferInstance) (fun h hf => let ⟨w, t', e⟩ := hf.2.2; ⟨(w, t'), e⟩) ?_
              rintro ⟨w53, t53⟩
              refine JL_fact (fun h hf => hf.2.1) fun e53 => ?_
              subst e53
              refine JL_fact (fun h hf => hf.2.2.1.one) fun hw53 => ?_
              refine JL_fact (fun h hf => hf.2.2.2) fun hsh53 => ?_
              have hw53 : w53.oneCell' = true ∧ w53.cells = #[w53] := hw53
              have hsh53 : t53.sh = putS (keyD o d) (tt o).sh := hsh53
              refine R_p Wide.wide (P_move rfl) rfl rfl ?_
              refine R_p Wide.wide (P_extract rfl rfl) rfl rfl ?_
              refine R_p Wide.wide (P_extract rfl rfl) rfl rfl ?_
              refine R_p Wide.wide (P_assign rfl) rfl rfl ?_
              refine R_p Wide.wide (P_assign rfl) rfl rfl ?_
              refine JL_nil ?_
              refine J_seq ?_
              refine J_rs ?_
              refine R_p Wide.wide (P_move rfl) rfl rfl ?_
              refine R_p Wide.wide (P_nei rfl rfl) rfl rfl ?_
              refine JL_nil ?_
              refine J_iff rfl ?_
              refine J_skip ?_
              show J _ _ _ _ _ _
              have hsm' : (keyD o d).length ≤ 4096 := hsm0
              refine J_region ?_
              refine R_p Wide.wide (P_move rfl) rfl rfl ?_
              refine R_p Wide.wide (P_move rfl) rfl rfl ?_
              refine R_p Wide.wide (P_move rfl) rfl rfl ?_
              refine R_p Wide.wide (P_nil rfl) rfl rfl ?_
              refine R_p Wide.wide (P_fieldAddr rfl Try.underlying47 rfl Try.type45 rfl rfl) rfl rfl ?_
              refine R_p Wide.wide (P_indexArr (i := o) rfl rfl Try.underlying45 Try.type44 rfl (by omega)) rfl rfl ?_
              refine R_store Wide.wide 1 (vs := [w53]) (cs' := vs.set o w53) rfl rfl rfl hw53.2 Try.type44 rfl (show 0 + o * 1 + 1 ≤ vs.length by omega) (by simp [hw53.1]) (by show vs.take (0 + o * 1) ++ [w53] ++ vs.drop (0 + o * 1 + 1) = vs.set o w53; rw [Nat.zero_add, Nat.mul_one]; exact set_mid (by omega)) rfl ?_
              refine JL_nil ?_
              refine J_region ?_
              refine R_p Wide.wide (P_move rfl) rfl rfl ?_
              refine R_p Wide.wide (P_add rfl rfl ((o + 1 : Nat) : Int) (w64x (by omega) (by omega))) rfl rfl ?_
              refine R_p Wide.wide (P_assign rfl) rfl rfl ?_
              refine JL_nil ?_
              exact ⟨⟨(o + 1, vs.set o w53, fun j => if j = o then t53 else tt j), by omega, by omega, by simpa using hvl, fun j h1 h2 hk => by
                by_cases e : j = o
                · subst e; exact hsm'
                · exact hsm j h1 (by omega) hk, fun j => by
                rw [putN_succ_yes ho1 hko]
                by_cases e : j = o
                · subst e; rw [if_pos rfl]; show (if j = j then t53 else tt j).sh = _; rw [if_pos rfl, hsh53, hsh]
                · rw [if_neg e]; show (if j = o then t53 else tt j).sh = _; rw [if_neg e]; exact hsh j⟩, by simp only; omega, Le.mk ⟨rfl, rfl, rfl, rfl, rfl, rfl, trivial⟩ rfl rfl fun _ hf => ⟨hf.1.1.1.1.1.1, hf.1.1.1.1.1.2.set (by omega) hf.2.2.1⟩⟩
        · refine J_exit ?_
          show J _ _ _ _ _ _
          refine J_region ?_
          refine R_p Wide.wide (P_add rfl rfl ((i + 1 : Nat) : Int) (w64x (by omega) (by omega))) rfl rfl ?_
          refine R_p Wide.wide (P_move rfl) rfl rfl ?_
          refine JL_nil ?_
          have ho5 : o = 5 := by have := of_decide_eq_false hb34; omega
          subst ho5
          have hmd : mayD d = true := by by_cases hm : mayD d = true; exact hm; have h1 := hb32; simp [hm] at h1
          have hokd : okAdd d = true := by
            simp only [okAdd, hmd, Bool.true_and, List.all_cons, List.all_nil, Bool.and_true, Bool.and_eq_true, Bool.or_eq_true, Bool.not_eq_true', decide_eq_true_eq]
            refine ⟨?_, ?_, ?_, ?_⟩
            · cases hk : keyOk 1 d; exact .inl rfl; exact .inr (hsm 1 (by omega) (by omega) hk)
            · cases hk : keyOk 2 d; exact .inl rfl; exact .inr (hsm 2 (by omega) (by omega) hk)
            · cases hk : keyOk 3 d; exact .inl rfl; exact .inr (hsm 3 (by omega) (by omega) hk)
            · cases hk : keyOk 4 d; exact .inl rfl; exact .inr (hsm 4 (by omega) (by omega) hk)
          exact ⟨⟨(i + 1, vs, tt), hlt, hvl, by rw [htk, List.all_append, hok]; simp [hokd], fun j => by rw [htk, addL_snoc]; exact hsh j⟩, by simp only; omega, Le.drop 0 (Le.mk ⟨rfl, rfl, rfl, rfl, trivial⟩ rfl rfl fun _ hf => hf)⟩
    · refine J_exit ?_
      show J _ _ _ _ _ _
      refine J_seq ?_
      have hil : i = l.length := by have := of_decide_eq_false hb27; omega
      have hmn : (tt 1).sh.mn ≤ 262144 := by
        rw [hsh]
        have h1 := addL_wf (l.take i) (ss := fun o => (ts o).sh) (o := 1) (hwf 1)
        have h2 := hc 1
        have h3 := List.length_take_le i l
        rw [h1.1.mn]; omega
      refine J_pubbox (b := b14) (t := 47) (cs := vs) [] [] rfl ?_
      refine J_rs ?_
      refine R_p Wide.wide (P_move rfl) rfl rfl ?_
      refine R_fv Wide.wide Try.call9 rfl (c9 (ts := tt)) (fun h hf => .inr ⟨b14, vs, rfl, hf.2, hf.1.2⟩) rfl ?_
      refine R_p Wide.wide (P_gtr rfl rfl) rfl rfl ?_
      refine JL_nil ?_
      refine J_iff (congrArg some (congrArg Value.bool (decide_eq_false (p := (262144 : Int) < (tt 1).sh.mn) (by omega)))) ?_
      refine J_skip ?_
      show J _ _ _ _ _ _
      refine J_rs ?_
      refine R_p Wide.wide (P_move rfl) rfl rfl ?_
      refine R_p Wide.wide (P_assign rfl) rfl rfl ?_
      refine R_p Wide.wide (P_assign rfl) rfl rfl ?_
      refine JL_nil ?_
      refine J_ret ?_
      refine Fin.ret _ (.inl rfl) rfl (Reads.two rfl (RV.tmp rfl) (RV.tmp rfl)) fun h hf => .inr ⟨by rw [hil, List.take_length] at hok; exact hok, _, tt, rfl, .inr ⟨b14, vs, rfl, hf.2, hf.1.2⟩, fun j => by rw [hsh, hil, List.take_length]⟩

end Go.Proofs.Ytgheodbcgddjlaa
