/- Walks: keys of parts; a datom's parts, told one by one; a datom's key. -/
import Derived.Test.YtgheodbcgddjlaaW2
set_option linter.unusedVariables false
set_option linter.unusedSimpArgs false
namespace Go.Proofs.Ytgheodbcgddjlaa
open Go.RowKit Go.Grow Go.Hl Go.Ix
theorem Rd.ofRow {h : Hp} {v : Value} {n : Nat} {xs : List Value} (H : Row h v n xs) : Rd h v n xs := Row.rd H

set_option maxRecDepth 100000 in
theorem c22 {v : Value} {ps : List Pt} (hn : ps.length ≤ 1000) (hs : ∀ p ∈ ps, p.v.s.length ≤ 1000000) : FnC Try.prog 22 [v].toArray (fun h => RdP h v ps) (fun u h => ∃ w, u = .tuple #[w, .int .i64 (if ps.all okP then 0 else 10)] ∧ Bs h w (if ps.all okP then keyL ps else [])) := by
  refine fn_of_J Try.func22 rfl inferInstance 34 Try.ntmps22 (Nat.le_of_ble_eq_true rfl) fun W0 h0 => ?_
  refine J_rs ?_
  refine R_p Wide.wide (P_assign rfl) rfl rfl ?_
  refine R_p Wide.wide (P_assign rfl) rfl rfl ?_
  refine JL_nil ?_
  refine J_rs ?_
  refine R_p Wide.wide (P_assign rfl) rfl rfl ?_
  refine JL_nil ?_
  refine J_seq ?_
  refine J_rs ?_
  refine R_p Wide.wide (P_move rfl) rfl rfl ?_
  refine R_lenf Wide.wide rfl (fun h hf => hf) Try.underlying39 rfl ?_
  refine R_p Wide.wide (P_move rfl) rfl rfl ?_
  refine JL_nil ?_
  refine J_block ?_
  refine J_ownnil 5 1 ?_
  refine J_round (ι := {p : Nat × Value // p.1 ≤ ps.length ∧ ∀ q ∈ ps.take p.1, okP q = true}) (fun p => ⟨[(4, p.1.2), (8, v), (9, .int .i64 ps.length), (10, .int .i64 (p.1.1 : Nat))], [ownb 5 p.1.2 (keyL (ps.take p.1.1))], fun h => RdP h v ps, inferInstance, []⟩) (fun p => ps.length - p.1.1) ⟨(0, .slice none 0 0), Nat.zero_le _, by simp⟩ (Le.mk ⟨rfl, rfl, rfl, rfl, trivial⟩ rfl rfl fun _ h => h) ?_
  rintro ⟨⟨i, w⟩, hi, hok⟩
  dsimp only at hi hok ⊢
  refine J_rs ?_
  refine R_p Wide.wide (P_lss rfl rfl) rfl rfl ?_
  refine JL_nil ?_
  refine J_seq ?_
  refine J_ifs rfl (fun hb11 => ?_) (fun hb11 => ?_)
  · refine J_skip ?_
    show J _ _ _ _ _ _
    refine J_seq ?_
    refine J_block ?_
    refine J_rs ?_
    have hlt : i < ps.length := by have := of_decide_eq_true hb11; omega
    have hget : ps[i]? = some ps[i] := List.getElem?_eq_getElem _
    have htk : ps.take (i + 1) = ps.take i ++ [ps[i]] := take_next hlt
    have hmem : ps[i] ∈ ps := List.getElem_mem _
    have hsp : ps[i].v.s.length ≤ 1000000 := hs _ hmem
    generalize ps[i] = p at hget htk hmem hsp
    refine R_indexf Wide.wide rfl rfl (fun h hf => hf) hlt Try.underlying39 Try.type38 rfl rfl (fun b12 off12 => ?_)
    refine R_loads Wide.wide (cs := p.cells) rfl _ Try.underlying38 rfl Try.type38 rfl rfl (fun h hf => hf.2.elem Pt.cells_length hget) ?_
    refine R_alloc Wide.wide Try.type38 rfl rfl rfl (fun b6 => ?_)
    refine R_store Wide.wide 0 rfl rfl rfl rfl Try.type38 rfl (Nat.le_of_ble_eq_true rfl) rfl rfl rfl ?_
    refine JL_nil ?_
    refine J_seq ?_
    refine J_rs ?_
    refine R_p Wide.wide (P_fieldAddr rfl Try.underlying38 rfl Try.type4 rfl rfl) rfl rfl ?_
    refine R_loadb Wide.wide 0 rfl rfl _ Try.underlying4 rfl rfl rfl ?_
    refine R_p Wide.wide (P_not rfl) rfl rfl ?_
    refine JL_nil ?_
    refine J_ifs rfl (fun hb16 => ?_) (fun hb16 => ?_)
    · refine J_rs ?_
      refine R_p Wide.wide (P_move rfl) rfl rfl ?_
      refine R_p Wide.wide (P_fieldAddr rfl Try.underlying38 rfl Try.type2 rfl rfl) rfl rfl ?_
      refine R_loadb Wide.wide 0 rfl rfl _ Try.underlying2 rfl rfl rfl ?_
      refine R_fn Wide.wide Try.call36 rfl c36 (fun h hf => trivial) (fun _ => inferInstance) rfl (fun v20 => ?_)
      refine JL_ex (fun (b : Nat) h => v20 = .slice (some ⟨b, 0, none⟩) 8 8 ∧ RdC h b 0 (cb (encN p.n))) (fun _ => inferInstance) (fun h hf => hf.2) fun b20 => ?_
      refine JL_fact (fun h hf => hf.2.1) fun e20 => ?_
      subst e20
      refine R_appb Wide.wide 1 rfl rfl rfl Try.underlying49 Try.type5 rfl rfl rfl rfl (ys := encN p.n) (Src.fact fun h hf j u hj => by rw [add_none]; exact hf.2.2 j u hj) (encN_length _) (by rw [encN_length]; have := keyL_length hok; have := List.length_take_le i ps; omega) rfl (fun v21 => ?_)
      refine R_p Wide.wide (P_assign rfl) rfl rfl ?_
      refine JL_nil ?_
      refine J_exit ?_
      show J _ _ _ _ _ _
      refine J_region ?_
      refine R_p Wide.wide (P_add rfl rfl ((i + 1 : Nat) : Int) (w64x (by omega) (by omega))) rfl rfl ?_
      refine R_p Wide.wide (P_move rfl) rfl rfl ?_
      refine JL_nil ?_
      have hb : p.b = false := by simp_all
      have hpo : okP p = true := by simp_all [okP]
      have hok' : ∀ q ∈ ps.take (i + 1), okP q = true := by rw [htk]; intro q hq; rcases List.mem_append.1 hq with h | h; exact hok q h; rw [List.mem_singleton.1 h]; exact hpo
      have hk : keyL (ps.take (i + 1)) = keyL (ps.take i) ++ encN p.n := by rw [htk]; simp [keyL, encP, hb]
      exact ⟨⟨(i + 1, v21), hlt, hok'⟩, by simp only; omega, Le.drop 0 (Le.mk ⟨rfl, rfl, rfl, rfl, trivial⟩ (by rw [hk]; rfl) rfl fun _ hf => hf.1.1.1)⟩
    · refine J_skip ?_
      show J _ _ _ _ _ _
      refine J_seq ?_
      refine J_rs ?_
      refine R_p Wide.wide (P_fieldAddr rfl Try.underlying38 rfl Try.type36 rfl rfl) rfl rfl ?_
      refine R_loadbs Wide.wide 0 (vs := p.v.cells) rfl rfl _ Try.underlying36 rfl Try.type36 rfl rfl rfl ?_
      refine R_fv Wide.wide Try.call35 rfl (c35 hsp) (fun h hf => trivial) rfl ?_
      refine R_p Wide.wide (P_assign rfl) rfl rfl ?_
      refine JL_nil ?_
      refine J_rs ?_
      refine R_p Wide.wide (P_move rfl) rfl rfl ?_
      refine R_p Wide.wide (P_nei rfl rfl) rfl rfl ?_
      refine JL_nil ?_
      refine J_ifs rfl (fun hb26 => ?_) (fun hb26 => ?_)
      · refine J_rs ?_
        refine R_p Wide.wide (P_move rfl) rfl rfl ?_
        refine R_p Wide.wide (P_assign rfl) rfl rfl ?_
        refine R_p Wide.wide (P_assign rfl) rfl rfl ?_
        refine JL_nil ?_
        refine J_ret ?_
        refine Fin.ret _ (.inl rfl) rfl (Reads.two rfl (RV.tmp rfl) (RV.tmp rfl)) fun h hf => ⟨.slice none 0 0, ?_, ?_⟩
        · have hall : ps.all okP = false := by rw [List.all_eq_false]; exact ⟨p, hmem, by simp_all [okP]⟩
          have hm : mayV p.v = false := by simp_all
          simp [hall, hm]
        · have hall : ps.all okP = false := by rw [List.all_eq_false]; exact ⟨p, hmem, by simp_all [okP]⟩
          simp only [hall]
          exact .inl ⟨rfl, rfl, rfl⟩
      · refine J_skip ?_
        show J _ _ _ _ _ _
        refine J_region ?_
        refine R_p Wide.wide (P_move rfl) rfl rfl ?_
        refine R_p Wide.wide (P_fieldAddr rfl Try.underlying38 rfl Try.type36 rfl rfl) rfl rfl ?_
        refine R_loadbs Wide.wide 0 (vs := p.v.cells) rfl rfl _ Try.underlying36 rfl Try.type36 rfl rfl rfl ?_
        refine R_call Wide.wide Try.call37 rfl (c37 (xs := keyL (ps.take i)) (x := p.v) (by have := keyL_length hok; have := List.length_take_le i ps; omega)) (rest := [.box b6 38 p.cells]) (List.Perm.swap _ _ []) (fun h hf => trivial) (fun _ _ => inferInstance) rfl (fun v31 R31 => ?_)
        refine JL_fact (p := R31 = [ownb 5 v31 (keyL (ps.take i) ++ encV p.v)]) (fun h hf => hf.2) (fun hR31 => ?_)
        subst hR31
        refine R_p Wide.wide (P_assign rfl) rfl rfl ?_
        refine JL_nil ?_
        refine J_region ?_
        refine R_p Wide.wide (P_add rfl rfl ((i + 1 : Nat) : Int) (w64x (by omega) (by omega))) rfl rfl ?_
        refine R_p Wide.wide (P_move rfl) rfl rfl ?_
        refine JL_nil ?_
        have hb : p.b = true := by simp_all
        have hpo : okP p = true := by simp_all [okP]
        have hok' : ∀ q ∈ ps.take (i + 1), okP q = true := by rw [htk]; intro q hq; rcases List.mem_append.1 hq with h | h; exact hok q h; rw [List.mem_singleton.1 h]; exact hpo
        have hk : keyL (ps.take (i + 1)) = keyL (ps.take i) ++ encV p.v := by rw [htk]; simp [keyL, encP, hb]
        exact ⟨⟨(i + 1, v31), hlt, hok'⟩, by simp only; omega, Le.drop 1 (Le.mk ⟨rfl, rfl, rfl, rfl, trivial⟩ (by rw [hk]; rfl) rfl fun _ hf => hf.1.1)⟩
  · refine J_exit ?_
    show J _ _ _ _ _ _
    refine J_rs ?_
    have hil : i = ps.length := by have := of_decide_eq_false hb11; omega
    refine R_p Wide.wide (P_move rfl) rfl rfl ?_
    refine R_p Wide.wide (P_assign rfl) rfl rfl ?_
    refine R_p Wide.wide (P_assign rfl) rfl rfl ?_
    refine JL_nil ?_
    refine J_pubown (v := w) (n := (keyL (ps.take i)).length) (xs := cb (keyL (ps.take i))) [] [] rfl ?_
    refine J_ret ?_
    refine Fin.ret _ (.inl rfl) rfl (Reads.two rfl (RV.tmp rfl) (RV.tmp rfl)) fun h hf => ⟨w, ?_, ?_⟩
    · have hall : ps.all okP = true := by rw [List.all_eq_true]; intro q hq; exact hok q (by rw [hil, List.take_length]; exact hq)
      simp [hall]
    · have hall : ps.all okP = true := by rw [List.all_eq_true]; intro q hq; exact hok q (by rw [hil, List.take_length]; exact hq)
      have := Row.rd hf.2
      rw [hil, List.take_length] at this
      simp only [hall, if_true]
      exact this

set_option maxRecDepth 100000 in
theorem c45 {x : Int} {d : D} : FnC Try.prog 45 [.int .i64 x, .agg d.cells.toArray].toArray (fun _ => True) (fun u _ => u = .agg (firstC x d).toArray) := by
  refine fn_of_J Try.func45 rfl inferInstance 52 Try.ntmps45 (Nat.le_of_ble_eq_true rfl) fun W0 h0 => ?_
  refine J_rs ?_
  refine R_box Wide.wide rfl rfl rfl (fun b3 => ?_)
  refine R_alloc Wide.wide Try.type99 rfl rfl rfl (fun b4 => ?_)
  refine JL_nil ?_
  refine J_seq ?_
  refine J_rs ?_
  refine R_p Wide.wide (P_move rfl) rfl rfl ?_
  refine JL_nil ?_
  refine J_block ?_
  refine J_rs ?_
  refine R_p Wide.wide (P_eqi rfl rfl) rfl rfl ?_
  refine R_p Wide.wide (P_assign rfl) rfl rfl ?_
  refine JL_nil ?_
  refine J_ifs rfl (fun hb6 => ?_) (fun hb6 => ?_)
  · refine J_ds Wide.wide 10 [(2, fun _ u _ => u = .agg (pn d.e).cells.toArray), (5, fun _ u _ => u = .agg (pn d.a).cells.toArray), (8, fun _ u _ => u = .agg (pv d.v).cells.toArray)] rfl (by kernel_rfl) ?_
    refine G_p (P_fieldAddr rfl Try.underlying43 rfl Try.type2 rfl rfl) rfl rfl ?_
    refine G_loadb 1 rfl rfl _ Try.underlying2 rfl rfl rfl rfl ?_
    refine G_fv Try.call46 rfl c46 (fun h hf hg => trivial) rfl rfl ?_
    refine G_p (P_fieldAddr rfl Try.underlying43 rfl Try.type2 rfl rfl) rfl rfl ?_
    refine G_loadb 1 rfl rfl _ Try.underlying2 rfl rfl rfl rfl ?_
    refine G_fv Try.call46 rfl c46 (fun h hf hg => trivial) rfl rfl ?_
    refine G_p (P_fieldAddr rfl Try.underlying43 rfl Try.type36 rfl rfl) rfl rfl ?_
    refine G_loadbs 1 (vs := d.v.cells) rfl rfl _ Try.underlying36 rfl Try.type36 rfl rfl rfl rfl ?_
    refine G_fv Try.call54 rfl c54 (fun h hf hg => trivial) rfl rfl ?_
    refine G_p (P_builda Try.underlying99 Try.type99 rfl Try.type38 (ivs := [(0, .agg (pn d.e).cells.toArray), (1, .agg (pn d.a).cells.toArray), (2, .agg (pv d.v).cells.toArray)]) rfl rfl) rfl rfl ?_
    refine G_nil ?_
    refine R_store Wide.wide 0 rfl rfl rfl rfl Try.type99 rfl (Nat.le_of_ble_eq_true rfl) rfl rfl rfl ?_
    refine JL_nil ?_
    refine J_ret ?_
    refine Fin.ret _ (.inl rfl) rfl (Reads.one rfl (RV.cell 0 (t := 99) (cs := ([pn d.e, pn d.a, pv d.v].flatMap Pt.cells)) _ rfl rfl Try.underlying99 rfl Try.type99 rfl)) fun _ _ => ?_
    have e : firstC x d = ([pn d.e, pn d.a, pv d.v].flatMap Pt.cells) := by simp_all [firstC, first]
    rw [e]
  · refine J_rs ?_
    refine R_p Wide.wide (P_eqi rfl rfl) rfl rfl ?_
    refine R_p Wide.wide (P_assign rfl) rfl rfl ?_
    refine JL_nil ?_
    refine J_ifs rfl (fun hb18 => ?_) (fun hb18 => ?_)
    · refine J_ds Wide.wide 10 [(2, fun _ u _ => u = .agg (pn d.a).cells.toArray), (5, fun _ u _ => u = .agg (pn d.e).cells.toArray), (8, fun _ u _ => u = .agg (pv d.v).cells.toArray)] rfl (by kernel_rfl) ?_
      refine G_p (P_fieldAddr rfl Try.underlying43 rfl Try.type2 rfl rfl) rfl rfl ?_
      refine G_loadb 1 rfl rfl _ Try.underlying2 rfl rfl rfl rfl ?_
      refine G_fv Try.call46 rfl c46 (fun h hf hg => trivial) rfl rfl ?_
      refine G_p (P_fieldAddr rfl Try.underlying43 rfl Try.type2 rfl rfl) rfl rfl ?_
      refine G_loadb 1 rfl rfl _ Try.underlying2 rfl rfl rfl rfl ?_
      refine G_fv Try.call46 rfl c46 (fun h hf hg => trivial) rfl rfl ?_
      refine G_p (P_fieldAddr rfl Try.underlying43 rfl Try.type36 rfl rfl) rfl rfl ?_
      refine G_loadbs 1 (vs := d.v.cells) rfl rfl _ Try.underlying36 rfl Try.type36 rfl rfl rfl rfl ?_
      refine G_fv Try.call54 rfl c54 (fun h hf hg => trivial) rfl rfl ?_
      refine G_p (P_builda Try.underlying99 Try.type99 rfl Try.type38 (ivs := [(0, .agg (pn d.a).cells.toArray), (1, .agg (pn d.e).cells.toArray), (2, .agg (pv d.v).cells.toArray)]) rfl rfl) rfl rfl ?_
      refine G_nil ?_
      refine R_store Wide.wide 0 rfl rfl rfl rfl Try.type99 rfl (Nat.le_of_ble_eq_true rfl) rfl rfl rfl ?_
      refine JL_nil ?_
      refine J_ret ?_
      refine Fin.ret _ (.inl rfl) rfl (Reads.one rfl (RV.cell 0 (t := 99) (cs := ([pn d.a, pn d.e, pv d.v].flatMap Pt.cells)) _ rfl rfl Try.underlying99 rfl Try.type99 rfl)) fun _ _ => ?_
      have e : firstC x d = ([pn d.a, pn d.e, pv d.v].flatMap Pt.cells) := by simp_all [firstC, first]
      rw [e]
    · refine J_rs ?_
      refine R_p Wide.wide (P_eqi rfl rfl) rfl rfl ?_
      refine R_p Wide.wide (P_assign rfl) rfl rfl ?_
      refine JL_nil ?_
      refine J_ifs rfl (fun hb30 => ?_) (fun hb30 => ?_)
      · refine J_ds Wide.wide 10 [(2, fun _ u _ => u = .agg (pn d.a).cells.toArray), (5, fun _ u _ => u = .agg (pv d.v).cells.toArray), (8, fun _ u _ => u = .agg (pn d.e).cells.toArray)] rfl (by kernel_rfl) ?_
        refine G_p (P_fieldAddr rfl Try.underlying43 rfl Try.type2 rfl rfl) rfl rfl ?_
        refine G_loadb 1 rfl rfl _ Try.underlying2 rfl rfl rfl rfl ?_
        refine G_fv Try.call46 rfl c46 (fun h hf hg => trivial) rfl rfl ?_
        refine G_p (P_fieldAddr rfl Try.underlying43 rfl Try.type36 rfl rfl) rfl rfl ?_
        refine G_loadbs 1 (vs := d.v.cells) rfl rfl _ Try.underlying36 rfl Try.type36 rfl rfl rfl rfl ?_
        refine G_fv Try.call54 rfl c54 (fun h hf hg => trivial) rfl rfl ?_
        refine G_p (P_fieldAddr rfl Try.underlying43 rfl Try.type2 rfl rfl) rfl rfl ?_
        refine G_loadb 1 rfl rfl _ Try.underlying2 rfl rfl rfl rfl ?_
        refine G_fv Try.call46 rfl c46 (fun h hf hg => trivial) rfl rfl ?_
        refine G_p (P_builda Try.underlying99 Try.type99 rfl Try.type38 (ivs := [(0, .agg (pn d.a).cells.toArray), (1, .agg (pv d.v).cells.toArray), (2, .agg (pn d.e).cells.toArray)]) rfl rfl) rfl rfl ?_
        refine G_nil ?_
        refine R_store Wide.wide 0 rfl rfl rfl rfl Try.type99 rfl (Nat.le_of_ble_eq_true rfl) rfl rfl rfl ?_
        refine JL_nil ?_
        refine J_ret ?_
        refine Fin.ret _ (.inl rfl) rfl (Reads.one rfl (RV.cell 0 (t := 99) (cs := ([pn d.a, pv d.v, pn d.e].flatMap Pt.cells)) _ rfl rfl Try.underlying99 rfl Try.type99 rfl)) fun _ _ => ?_
        have e : firstC x d = ([pn d.a, pv d.v, pn d.e].flatMap Pt.cells) := by simp_all [firstC, first]
        rw [e]
      · refine J_skip ?_
        show J _ _ _ _ _ _
        refine J_ds Wide.wide 10 [(2, fun _ u _ => u = .agg (pv d.v).cells.toArray), (5, fun _ u _ => u = .agg (pn d.a).cells.toArray), (8, fun _ u _ => u = .agg (pn d.e).cells.toArray)] rfl (by kernel_rfl) ?_
        refine G_p (P_fieldAddr rfl Try.underlying43 rfl Try.type36 rfl rfl) rfl rfl ?_
        refine G_loadbs 1 (vs := d.v.cells) rfl rfl _ Try.underlying36 rfl Try.type36 rfl rfl rfl rfl ?_
        refine G_fv Try.call54 rfl c54 (fun h hf hg => trivial) rfl rfl ?_
        refine G_p (P_fieldAddr rfl Try.underlying43 rfl Try.type2 rfl rfl) rfl rfl ?_
        refine G_loadb 1 rfl rfl _ Try.underlying2 rfl rfl rfl rfl ?_
        refine G_fv Try.call46 rfl c46 (fun h hf hg => trivial) rfl rfl ?_
        refine G_p (P_fieldAddr rfl Try.underlying43 rfl Try.type2 rfl rfl) rfl rfl ?_
        refine G_loadb 1 rfl rfl _ Try.underlying2 rfl rfl rfl rfl ?_
        refine G_fv Try.call46 rfl c46 (fun h hf hg => trivial) rfl rfl ?_
        refine G_p (P_builda Try.underlying99 Try.type99 rfl Try.type38 (ivs := [(0, .agg (pv d.v).cells.toArray), (1, .agg (pn d.a).cells.toArray), (2, .agg (pn d.e).cells.toArray)]) rfl rfl) rfl rfl ?_
        refine G_nil ?_
        refine R_store Wide.wide 0 rfl rfl rfl rfl Try.type99 rfl (Nat.le_of_ble_eq_true rfl) rfl rfl rfl ?_
        refine JL_nil ?_
        refine J_ret ?_
        refine Fin.ret _ (.inl rfl) rfl (Reads.one rfl (RV.cell 0 (t := 99) (cs := ([pv d.v, pn d.a, pn d.e].flatMap Pt.cells)) _ rfl rfl Try.underlying99 rfl Try.type99 rfl)) fun _ _ => ?_
        have e : firstC x d = ([pv d.v, pn d.a, pn d.e].flatMap Pt.cells) := by simp_all [firstC, first]
        rw [e]

theorem monoC44 {b2 b3 b31 : Nat} {o2 o3 o31 : Obj} {α : Type} {Y : List α → Res → Hp → Prop} (mY : ∀ pre r, Mono (Y pre r)) (pre : List α) (r : Res) : Mono (fun h => ((h b2 = some o2 ∧ h b3 = some o3) ∧ h b31 = some o31) ∧ Y pre r h) := inferInstance

set_option maxRecDepth 100000 in
set_option synthInstance.maxHeartbeats 400000 in
set_option synthInstance.maxSize 1000 in
theorem c44 {x : Int} {d : D} {b2 b3 : Nat} : SeqCt Try.prog 44 [.pointer (some ⟨b2, 0, none⟩), .pointer (some ⟨b3, 0, none⟩)] [] (fun h => (h b2 = some (.cells #[.int .i64 x] 3 (0, 0)) ∧ h b3 = some (.cells d.cells.toArray 43 (0, 0)))) encP2 (partsL x d).zipIdx (fun R' _ => R' = []) := by
  intro ly Y Z mY mZ hy r
  have ea : #[Value.func (.yield ly) #[] #[]] ++ [Value.pointer (some ⟨b2, 0, none⟩), .pointer (some ⟨b3, 0, none⟩)].toArray = [Value.func (.yield ly) #[] #[], .pointer (some ⟨b2, 0, none⟩), .pointer (some ⟨b3, 0, none⟩)].toArray := by simp
  rw [ea]
  refine ct_of_JM Try.func44 rfl inferInstance 46 Try.ntmps44 (Nat.le_of_ble_eq_true rfl) fun W0 h0 => ?_
  refine J_rs ?_
  refine R_p Wide.wide (P_assign rfl) rfl rfl ?_
  refine JL_nil ?_
  refine J_seq ?_
  refine J_rs ?_
  refine R_load Wide.wide rfl _ Try.underlying3 rfl rfl (fun h hf => RdC.of_cells (cs := [.int .i64 x]) hf.1.1 0 _ rfl) ?_
  refine R_loads Wide.wide (cs := d.cells) rfl _ Try.underlying43 rfl Try.type43 rfl rfl (fun h hf => fun j u hj => by rw [add_none]; exact RdC.of_cells hf.1.2 j u hj) ?_
  refine R_fv Wide.wide Try.call45 rfl c45 (fun h hf => trivial) rfl ?_
  refine R_p Wide.wide (P_move rfl) rfl rfl ?_
  refine JL_nil ?_
  refine J_block ?_
  refine J_round (ι := {p : Nat × Res // p.1 ≤ 3}) (fun p => ⟨[(0, .func (.yield ly) #[] #[]), (1, .pointer (some ⟨b2, 0, none⟩)), (2, .pointer (some ⟨b3, 0, none⟩)), (4, .int .i64 (p.1.1 : Nat)), (11, .agg (firstC x d).toArray), (12, .int .i64 (p.1.1 : Nat))], [p.1.2], fun h => (h b2 = some (.cells #[.int .i64 x] 3 (0, 0)) ∧ h b3 = some (.cells d.cells.toArray 43 (0, 0))) ∧ Y ((partsL x d).zipIdx.take p.1.1) p.1.2 h, inferInstance, []⟩) (fun p => 3 - p.1.1) ⟨(0, r), by omega⟩ (Le.mk ⟨rfl, rfl, rfl, rfl, rfl, rfl, trivial⟩ rfl rfl fun _ h => h) ?_
  rintro ⟨⟨i, r⟩, hi⟩
  dsimp only at hi ⊢
  refine J_rs ?_
  refine R_p Wide.wide (P_lss rfl rfl) rfl rfl ?_
  refine JL_nil ?_
  refine J_seq ?_
  refine J_ifs rfl (fun hb13 => ?_) (fun hb13 => ?_)
  · refine J_skip ?_
    show J _ _ _ _ _ _
    refine J_seq ?_
    refine J_block ?_
    refine J_rs ?_
    have hlt : i < 3 := by have := of_decide_eq_true hb13; omega
    have hl7 : i < (partsL x d).length := by rw [partsL_length]; omega
    have hlf : i < (first x d).length := by rw [first_length]; omega
    have hget : (first x d)[i]? = some (partsL x d)[i] := by
      have : (partsL x d)[i] = (first x d)[i] := by simp only [partsL]; rw [List.getElem_append_left]
      rw [this]; exact List.getElem?_eq_getElem _
    have hsp := zip_split hl7
    have htk := zip_take hl7
    generalize (partsL x d)[i] = p at hget hsp htk
    refine R_p Wide.wide (P_indexv (vs := p.cells) rfl rfl Try.underlying99 Try.underlying38 rfl Try.type38 hlt (flat_mid Pt.cells Pt.cells_length hget) (by rw [firstC, flat_len Pt.cells Pt.cells_length, first_length]; show i * 5 + 5 ≤ 3 * 5; omega)) rfl rfl ?_
    refine R_alloc Wide.wide Try.type38 rfl rfl rfl (fun b6 => ?_)
    refine R_store Wide.wide 0 rfl rfl rfl rfl Try.type38 rfl (Nat.le_of_ble_eq_true rfl) rfl rfl rfl ?_
    refine JL_nil ?_
    refine J_seq ?_
    refine J_rs ?_
    refine R_p Wide.wide (P_move rfl) rfl rfl ?_
    refine R_p Wide.wide (P_move rfl) rfl rfl ?_
    refine R_loadbs Wide.wide 0 (vs := p.cells) rfl rfl _ Try.underlying38 rfl Try.type38 rfl rfl rfl ?_
    refine R_yieldY (.inl rfl) mY mZ hy (pre := (partsL x d).zipIdx.take i) (x := (p, i)) (suf := (partsL x d).zipIdx.drop (i + 1)) hsp rfl rfl (List.Perm.swap _ _ []) (fun h hf => hf.2) rfl (fun r18 => ?_) (fun r18 => ?_)
    · refine R_p Wide.wide (P_not rfl) rfl rfl ?_
      refine JL_nil ?_
      refine J_iff rfl ?_
      refine J_skip ?_
      show J _ _ _ _ _ _
      refine J_region ?_
      refine R_p Wide.wide (P_move rfl) rfl rfl ?_
      refine R_p Wide.wide (P_add rfl rfl ((i + 1 : Nat) : Int) (w64x (by omega) (by omega))) rfl rfl ?_
      refine R_p Wide.wide (P_assign rfl) rfl rfl ?_
      refine JL_nil ?_
      refine J_region ?_
      refine R_p Wide.wide (P_add rfl rfl ((i + 1 : Nat) : Int) (w64x (by omega) (by omega))) rfl rfl ?_
      refine R_p Wide.wide (P_move rfl) rfl rfl ?_
      refine JL_nil ?_
      exact ⟨⟨(i + 1, r18), hlt⟩, by simp only; omega, Le.drop 1 (Le.mk ⟨rfl, rfl, rfl, rfl, rfl, rfl, trivial⟩ rfl rfl fun h hf => ⟨hf.1.1, by rw [← htk]; exact hf.2⟩)⟩
    · refine R_p Wide.wide (P_not rfl) rfl rfl ?_
      refine JL_nil ?_
      refine J_ift rfl ?_
      exact J_ret (FinM.nil _ (.inl rfl) (R' := [r18]) _ (List.Perm.refl _) (Reads.none rfl) fun h hf => ⟨r18, [], rfl, .inr ⟨_, ⟨_, by rw [htk]; exact List.take_append_drop _ _⟩, hf.2⟩⟩)
  · refine J_exit ?_
    show J _ _ _ _ _ _
    refine J_ds Wide.wide 11 [(3, fun _ u _ => u = .int .i64 (addN d)), (8, fun _ v h => ∃ b, v = .slice (some ⟨b, 0, none⟩) 4 4 ∧ h b = some (.cells [.int .i64 d.t, .int .i64 (addN d), .int .i64 d.fr, .int .i64 d.to].toArray 2 (0, 0)))] rfl (by kernel_rfl) ?_
    obtain rfl : i = 3 := by have := of_decide_eq_false hb13; omega
    refine G_p (P_fieldAddr rfl Try.underlying43 rfl Try.type2 rfl rfl) rfl rfl ?_
    refine G_load rfl _ Try.underlying2 rfl rfl rfl (fun h hf hg => RdC.of_cells hf.1.2 5 _ rfl) ?_
    refine G_loads (cs := d.cells) rfl _ Try.underlying43 rfl Try.type43 rfl rfl rfl (fun h hf hg => fun j u hj => by rw [add_none]; exact RdC.of_cells hf.1.2 j u hj) ?_
    refine G_fv Try.call43 rfl c43 (fun h hf hg => trivial) rfl rfl ?_
    refine G_p (P_fieldAddr rfl Try.underlying43 rfl Try.type2 rfl rfl) rfl rfl ?_
    refine G_load rfl _ Try.underlying2 rfl rfl rfl (fun h hf hg => RdC.of_cells hf.1.2 7 _ rfl) ?_
    refine G_p (P_fieldAddr rfl Try.underlying43 rfl Try.type2 rfl rfl) rfl rfl ?_
    refine G_load rfl _ Try.underlying2 rfl rfl rfl (fun h hf hg => RdC.of_cells hf.1.2 8 _ rfl) ?_
    refine G_bslice Try.underlying101 Try.type2 rfl (ivs := [(0, .int .i64 d.t), (1, .int .i64 (addN d)), (2, .int .i64 d.fr), (3, .int .i64 d.to)]) rfl rfl rfl rfl rfl (fun b31 => ?_)
    refine G_p (P_len rfl rfl Try.underlying101) rfl rfl ?_
    refine G_p (P_move rfl) rfl rfl ?_
    refine G_nil ?_
    refine JL_nil ?_
    refine J_block ?_
    refine J_round (ι := {p : Nat × Res // p.1 ≤ 4}) (fun p => ⟨[(0, .func (.yield ly) #[] #[]), (1, .pointer (some ⟨b2, 0, none⟩)), (2, .pointer (some ⟨b3, 0, none⟩)), (4, .int .i64 (p.1.1 + 3 : Nat)), (31, .slice (some ⟨b31, 0, none⟩) 4 4), (32, .int .i64 4), (33, .int .i64 (p.1.1 : Nat))], [p.1.2], fun h => ((h b2 = some (.cells #[.int .i64 x] 3 (0, 0)) ∧ h b3 = some (.cells d.cells.toArray 43 (0, 0))) ∧ h b31 = some (.cells [.int .i64 d.t, .int .i64 (addN d), .int .i64 d.fr, .int .i64 d.to].toArray 2 (0, 0))) ∧ Y ((partsL x d).zipIdx.take (p.1.1 + 3)) p.1.2 h, monoC44 mY _ _, []⟩) (fun p => 4 - p.1.1) ⟨(0, r), by omega⟩ (Le.mk ⟨rfl, rfl, rfl, rfl, rfl, rfl, rfl, trivial⟩ rfl rfl fun _ hf => ⟨⟨hf.1.1, hf.2.1⟩, hf.1.2⟩) ?_
    rintro ⟨⟨j, r⟩, hj⟩
    dsimp only at hj ⊢
    refine J_rs ?_
    refine R_p Wide.wide (P_lss rfl rfl) rfl rfl ?_
    refine JL_nil ?_
    refine J_seq ?_
    refine J_ifs rfl (fun hb34 => ?_) (fun hb34 => ?_)
    · refine J_skip ?_
      show J _ _ _ _ _ _
      refine J_seq ?_
      refine J_block ?_
      refine J_rs ?_
      have hlt : j < 4 := by have := of_decide_eq_true hb34; omega
      have hl7 : j + 3 < (partsL x d).length := by rw [partsL_length]; omega
      have hget : ∃ q, (partsL x d)[j + 3] = pn q ∧ [.int .i64 d.t, .int .i64 (addN d), .int .i64 d.fr, .int .i64 d.to][j * 1]? = some (Value.int .i64 q) := by
        have e : (partsL x d)[j + 3] = [pn d.t, pn (addN d), pn d.fr, pn d.to][j]'(by simpa using hlt) := by
          simp only [partsL]; rw [List.getElem_append_right (by rw [first_length]; omega)]; simp [first_length]
        have hj' : j = 0 ∨ j = 1 ∨ j = 2 ∨ j = 3 := by omega
        rcases hj' with rfl | rfl | rfl | rfl <;> exact ⟨_, e, rfl⟩
      have hsp := zip_split hl7
      have htk := zip_take hl7
      obtain ⟨q, hq, hcell⟩ := hget
      rw [hq] at hsp htk
      refine R_p Wide.wide (P_indexAddr rfl rfl Try.underlying101 Try.type2 rfl (by omega)) rfl rfl ?_
      refine R_load Wide.wide rfl _ Try.underlying2 rfl rfl (fun h hf => RdC.of_cells (cs := [.int .i64 d.t, .int .i64 (addN d), .int .i64 d.fr, .int .i64 d.to]) hf.1.2 (j * 1) _ hcell) ?_
      refine R_p Wide.wide (P_assign rfl) rfl rfl ?_
      refine JL_nil ?_
      refine J_seq ?_
      refine J_rs ?_
      refine R_p Wide.wide (P_move rfl) rfl rfl ?_
      refine R_p Wide.wide (P_move rfl) rfl rfl ?_
      refine R_p Wide.wide (P_move rfl) rfl rfl ?_
      refine R_fv Wide.wide Try.call46 rfl c46 (fun h hf => trivial) rfl ?_
      refine R_yieldY (.inl rfl) mY mZ hy (pre := (partsL x d).zipIdx.take (j + 3)) (x := (pn q, j + 3)) (suf := (partsL x d).zipIdx.drop (j + 3 + 1)) hsp rfl rfl (List.Perm.refl _) (fun h hf => hf.2) rfl (fun r41 => ?_) (fun r41 => ?_)
      · refine R_p Wide.wide (P_not rfl) rfl rfl ?_
        refine JL_nil ?_
        refine J_iff rfl ?_
        refine J_skip ?_
        show J _ _ _ _ _ _
        refine J_region ?_
        refine R_p Wide.wide (P_move rfl) rfl rfl ?_
        refine R_p Wide.wide (P_add rfl rfl ((j + 1 + 3 : Nat) : Int) (w64x (by omega) (by omega))) rfl rfl ?_
        refine R_p Wide.wide (P_assign rfl) rfl rfl ?_
        refine JL_nil ?_
        refine J_region ?_
        refine R_p Wide.wide (P_add rfl rfl ((j + 1 : Nat) : Int) (w64x (by omega) (by omega))) rfl rfl ?_
        refine R_p Wide.wide (P_move rfl) rfl rfl ?_
        refine JL_nil ?_
        exact ⟨⟨(j + 1, r41), hlt⟩, by simp only; omega, Le.mk ⟨rfl, rfl, rfl, rfl, rfl, rfl, rfl, trivial⟩ rfl rfl fun h hf => ⟨hf.1.1, by rw [show j + 1 + 3 = j + 3 + 1 by omega, ← htk]; exact hf.2⟩⟩
      · refine R_p Wide.wide (P_not rfl) rfl rfl ?_
        refine JL_nil ?_
        refine J_ift rfl ?_
        exact J_ret (FinM.nil _ (.inl rfl) (R' := [r41]) _ (List.Perm.refl _) (Reads.none rfl) fun h hf => ⟨r41, [], rfl, .inr ⟨_, ⟨_, by rw [htk]; exact List.take_append_drop _ _⟩, hf.2⟩⟩)
    · refine J_exit ?_
      show FinM _ _ _ _ _
      obtain rfl : j = 4 := by have := of_decide_eq_false hb34; omega
      refine FinM.nil _ (.inr rfl) (R' := [r]) [] (List.Perm.refl _) (Reads.none rfl) fun h hf => ⟨r, [], rfl, .inl ⟨?_, rfl⟩⟩
      have := hf.2
      rwa [List.take_of_length_le (by simp [partsL_length])] at this

end Go.Proofs.Ytgheodbcgddjlaa
