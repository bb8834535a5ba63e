/- Walks: the bytes of numbers, texts, values and keys. -/
import Derived.Test.YtgheodbcgddjlaaW1
set_option linter.unusedVariables false
set_option linter.unusedSimpArgs false
namespace Go.Proofs.Ytgheodbcgddjlaa
open Go.RowKit Go.Grow Go.Hl Go.Ix

theorem w64x {a c : Int} (e : a = c) (h : -9223372036854775808 ≤ c ∧ c ≤ 9223372036854775807) : IntKind.i64.wrap a = c := by subst e; exact w64 h

theorem u8z (c : UInt8) : ((c.toNat : Int) = 0) ↔ c = 0 := by rw [← UInt8.toNat_inj]; simp

set_option maxRecDepth 100000 in
theorem c48 {n : Int} : FnC Try.prog 48 [.int .i64 n].toArray (fun _ => True) (fun u _ => u = .agg (cb (encN n)).toArray) := by
  refine fn_of_J Try.func48 rfl inferInstance 22 Try.ntmps48 (Nat.le_of_ble_eq_true rfl) fun W0 h0 => ?_
  refine J_rs ?_
  refine R_alloc Wide.wide Try.type104 rfl rfl rfl (fun b2 => ?_)
  refine JL_nil ?_
  refine J_rs ?_
  refine R_alloc Wide.wide Try.type104 rfl rfl rfl (fun b3 => ?_)
  refine JL_nil ?_
  refine J_rs ?_
  refine R_p Wide.wide (P_move rfl) rfl rfl ?_
  refine R_p Wide.wide (P_convi rfl Try.underlying2 Try.underlying116 _ rfl) rfl rfl ?_
  refine R_p Wide.wide (P_xor rfl rfl) rfl rfl ?_
  refine R_p Wide.wide (P_assign rfl) rfl rfl ?_
  refine JL_nil ?_
  refine J_seq ?_
  refine J_rs ?_
  refine R_p Wide.wide (P_move rfl) rfl rfl ?_
  refine JL_nil ?_
  refine J_block ?_
  refine J_round (ι := {i : Nat // i ≤ 8}) (fun i => ⟨[(2, .pointer (some ⟨b2, 0, none⟩)), (3, .pointer (some ⟨b3, 0, none⟩)), (4, .int .u64 (xorN n)), (9, .int .i64 (i.1 : Nat))], [.box b3 104 (cb (encC n i.1)), .box b2 104 (cb (encC n 0))], fun h => True, inferInstance, []⟩) (fun i => 8 - i.1) ⟨0, by omega⟩ (Le.mk ⟨rfl, rfl, rfl, rfl, trivial⟩ rfl rfl fun _ h => h) ?_
  rintro ⟨i, hi⟩
  dsimp only
  refine J_rs ?_
  refine R_p Wide.wide (P_lss rfl rfl) rfl rfl ?_
  refine JL_nil ?_
  refine J_seq ?_
  refine J_ifs rfl (fun hb10 => ?_) (fun hb10 => ?_)
  · refine J_skip ?_
    show J _ _ _ _ _ _
    refine J_seq ?_
    refine J_block ?_
    refine J_rs ?_
    have hlt : i < 8 := by have := of_decide_eq_true hb10; omega
    refine R_p Wide.wide (P_move rfl) rfl rfl ?_
    refine R_p Wide.wide (P_assign rfl) rfl rfl ?_
    refine JL_nil ?_
    refine J_region ?_
    refine R_p Wide.wide (P_move rfl) rfl rfl ?_
    refine R_p Wide.wide (P_move rfl) rfl rfl ?_
    refine R_p Wide.wide (P_move rfl) rfl rfl ?_
    refine R_p Wide.wide (P_mul rfl rfl (8 * (i : Int)) (w64 (by omega))) rfl rfl ?_
    refine R_p Wide.wide (P_sub rfl rfl ((56 - 8 * i : Nat) : Int) (w64x (by omega) (by omega))) rfl rfl ?_
    refine R_p Wide.wide (P_shr rfl rfl (by omega) (by show ((56 - 8 * i : Nat) : Int) ≤ 64; omega)) rfl rfl ?_
    refine R_p Wide.wide (P_convi rfl Try.underlying116 Try.underlying5 ((encB n i).toNat : Int) (kb_spec _)) rfl rfl ?_
    refine R_p Wide.wide (P_indexArr rfl rfl Try.underlying104 Try.type5 rfl (by omega)) rfl rfl ?_
    refine R_store Wide.wide 0 (cs := cb (encC n i)) rfl rfl rfl rfl Try.type5 rfl (by rw [cb_length, encC_length]; show 0 + i * 1 + 1 ≤ 8; omega) rfl (cs' := cb (encC n (i + 1))) (by
      have e : 0 + i * Try.t5.size = i := by show 0 + i * 1 = i; omega
      rw [e, set_mid (by rw [cb_length, encC_length]; omega)]; exact cb_set _ _ _) rfl ?_
    refine JL_nil ?_
    refine J_region ?_
    refine R_p Wide.wide (P_add rfl rfl ((i + 1 : Nat) : Int) (w64x (by omega) (by omega))) rfl rfl ?_
    refine R_p Wide.wide (P_move rfl) rfl rfl ?_
    refine JL_nil ?_
    exact ⟨⟨i + 1, by have := of_decide_eq_true hb10; omega⟩, by simp only; have := of_decide_eq_true hb10; omega, Le.mk ⟨rfl, rfl, rfl, rfl, trivial⟩ rfl rfl fun _ h => h⟩
  · refine J_exit ?_
    show J _ _ _ _ _ _
    refine J_rs ?_
    obtain rfl : i = 8 := by have := of_decide_eq_false hb10; omega
    refine R_loadbs Wide.wide 0 (vs := cb (encC n 8)) rfl rfl _ Try.underlying104 rfl Try.type104 rfl rfl rfl ?_
    refine R_store Wide.wide 1 rfl rfl rfl rfl Try.type104 rfl (Nat.le_of_ble_eq_true rfl) rfl rfl rfl ?_
    refine JL_nil ?_
    exact J_ret (Fin.ret _ (.inl rfl) rfl (Reads.one rfl (RV.cell 1 (t := 104) (cs := cb (encN n)) _ rfl rfl Try.underlying104 rfl Try.type104 rfl)) fun _ _ => rfl)

set_option maxRecDepth 100000 in
theorem c36 {n : Int} : FnC Try.prog 36 [.int .i64 n].toArray (fun _ => True) (fun u h => ∃ b, u = .slice (some ⟨b, 0, none⟩) 8 8 ∧ RdC h b 0 (cb (encN n))) := by
  refine fn_of_J Try.func36 rfl inferInstance 7 Try.ntmps36 (Nat.le_of_ble_eq_true rfl) fun W0 h0 => ?_
  refine J_rs ?_
  refine R_p Wide.wide (P_assign rfl) rfl rfl ?_
  refine JL_nil ?_
  refine J_rs ?_
  refine R_p Wide.wide (P_move rfl) rfl rfl ?_
  refine R_fv Wide.wide Try.call48 rfl c48 (fun h hf => trivial) rfl ?_
  refine R_alloc Wide.wide Try.type104 rfl rfl rfl (fun b3 => ?_)
  refine R_store Wide.wide 0 rfl rfl rfl rfl Try.type104 rfl (Nat.le_of_ble_eq_true rfl) rfl rfl rfl ?_
  refine JL_nil ?_
  refine J_rs ?_
  refine R_p Wide.wide (P_slicea rfl Try.underlying104 rfl rfl) rfl rfl ?_
  refine R_p Wide.wide (P_assign rfl) rfl rfl ?_
  refine JL_nil ?_
  refine J_pubbox (b := b3) (t := 104) (cs := cb (encN n)) [] [] rfl ?_
  refine J_ret ?_
  refine Fin.ret _ (.inl rfl) rfl (Reads.one rfl (RV.tmp rfl)) fun h hf => ⟨b3, rfl, RdC.of_cells hf.2⟩

set_option maxRecDepth 100000 in
theorem c49 {v : Value} {xs l : List UInt8} (hb : xs.length + 2 * l.length + 10 ≤ 100000000) : Ct Try.prog 49 [v, .string (bs l)].toArray [ownb 5 v xs] (fun _ => True) (fun u R' _ => R' = [ownb 5 u (xs ++ encT l)]) := by
  refine ct_of_JM Try.func49 rfl inferInstance 27 Try.ntmps49 (Nat.le_of_ble_eq_true rfl) fun W0 h0 => ?_
  refine J_rs ?_
  refine R_p Wide.wide (P_assign rfl) rfl rfl ?_
  refine JL_nil ?_
  refine J_seq ?_
  refine J_rs ?_
  refine R_p Wide.wide (P_move rfl) rfl rfl ?_
  refine R_strb Wide.wide rfl Try.underlying9 Try.underlying49 Try.underlying5 rfl (fun b8 cap8 hcap8 => ?_)
  refine R_p Wide.wide (P_len rfl rfl Try.underlying49) rfl rfl ?_
  refine R_p Wide.wide (P_move rfl) rfl rfl ?_
  refine JL_nil ?_
  refine J_block ?_
  refine J_round (ι := {p : Nat × Value // p.1 ≤ l.length}) (fun p => ⟨[(0, p.1.2), (8, .slice (some ⟨b8, 0, none⟩) l.length cap8), (9, .int .i64 l.length), (10, .int .i64 (p.1.1 : Nat))], [ownb 5 p.1.2 (xs ++ encT0 (l.take p.1.1))], fun h => True ∧ RdC h b8 0 (cb l), inferInstance, []⟩) (fun p => l.length - p.1.1) ⟨(0, v), Nat.zero_le _⟩ (Le.mk ⟨rfl, rfl, rfl, rfl, trivial⟩ (by simp [encT0]) rfl fun _ h => h) ?_
  rintro ⟨⟨i, v⟩, hi⟩
  dsimp only at hi ⊢
  refine J_rs ?_
  refine R_p Wide.wide (P_lss rfl rfl) rfl rfl ?_
  refine JL_nil ?_
  refine J_seq ?_
  refine J_ifs rfl (fun hb11 => ?_) (fun hb11 => ?_)
  · refine J_skip ?_
    show J _ _ _ _ _ _
    refine J_seq ?_
    refine J_block ?_
    refine J_rs ?_
    have hlt : i < l.length := by have := of_decide_eq_true hb11; omega
    have hget : l[i * 1]? = some l[i] := by rw [Nat.mul_one]; exact List.getElem?_eq_getElem _
    have htk : encT0 (l.take (i + 1)) = encT0 (l.take i) ++ (if l[i] = 0 then [l[i], 255] else [l[i]]) := by rw [take_next hlt, encT0_append]; simp [encT0]
    generalize l[i] = c at hget htk
    refine R_p Wide.wide (P_indexAddr rfl rfl Try.underlying49 Try.type5 rfl (by omega)) rfl rfl ?_
    refine R_load Wide.wide rfl _ Try.underlying5 rfl rfl (fun h hf => hf.2 _ _ (cb_get hget)) ?_
    refine R_p Wide.wide (P_assign rfl) rfl rfl ?_
    refine JL_nil ?_
    refine J_rs ?_
    refine R_p Wide.wide (P_move rfl) rfl rfl ?_
    refine R_p Wide.wide (P_move rfl) rfl rfl ?_
    refine R_bslice Wide.wide Try.underlying49 Try.type5 rfl (ivs := [(0, .int .u8 (c.toNat : Int))]) rfl rfl rfl rfl (fun b16 => ?_)
    refine R_appb Wide.wide 1 rfl rfl rfl Try.underlying49 Try.type5 rfl rfl rfl rfl (ys := [c]) (Src.box0 0 rfl) rfl (by simp only [List.length_append, List.length_cons, List.length_nil]; have := encT0_length (l.take i); have := List.length_take_le i l; omega) rfl (fun v17 => ?_)
    refine JL_drop 0 ?_
    refine R_p Wide.wide (P_assign rfl) rfl rfl ?_
    refine JL_nil ?_
    refine J_rs ?_
    refine R_p Wide.wide (P_move rfl) rfl rfl ?_
    refine R_p Wide.wide (P_eqi rfl rfl) rfl rfl ?_
    refine JL_nil ?_
    refine J_ifs rfl (fun hb19 => ?_) (fun hb19 => ?_)
    · refine J_region ?_
      refine R_p Wide.wide (P_move rfl) rfl rfl ?_
      refine R_bslice Wide.wide Try.underlying49 Try.type5 rfl (ivs := [(0, .int .u8 255)]) rfl rfl rfl rfl (fun b21 => ?_)
      refine R_appb Wide.wide 1 rfl rfl rfl Try.underlying49 Try.type5 rfl rfl rfl rfl (ys := [255]) (Src.box0 0 rfl) rfl (by simp only [List.length_append, List.length_cons, List.length_nil]; have := encT0_length (l.take i); have := List.length_take_le i l; omega) rfl (fun v22 => ?_)
      refine JL_drop 0 ?_
      refine R_p Wide.wide (P_assign rfl) rfl rfl ?_
      refine JL_nil ?_
      refine J_region ?_
      refine R_p Wide.wide (P_add rfl rfl ((i + 1 : Nat) : Int) (w64x (by omega) (by omega))) rfl rfl ?_
      refine R_p Wide.wide (P_move rfl) rfl rfl ?_
      refine JL_nil ?_
      exact ⟨⟨(i + 1, v22), hlt⟩, by simp only; omega, Le.mk ⟨rfl, rfl, rfl, rfl, trivial⟩ (by
        show [ownb 5 _ _] = [ownb 5 _ _]
        rw [htk]; simp only [u8z] at hb19; simp_all) rfl fun _ h => h⟩
    · refine J_skip ?_
      show J _ _ _ _ _ _
      refine J_region ?_
      refine R_p Wide.wide (P_add rfl rfl ((i + 1 : Nat) : Int) (w64x (by omega) (by omega))) rfl rfl ?_
      refine R_p Wide.wide (P_move rfl) rfl rfl ?_
      refine JL_nil ?_
      exact ⟨⟨(i + 1, v17), hlt⟩, by simp only; omega, Le.mk ⟨rfl, rfl, rfl, rfl, trivial⟩ (by
        show [ownb 5 _ _] = [ownb 5 _ _]
        rw [htk]; simp only [u8z] at hb19; simp_all) rfl fun _ h => h⟩
  · refine J_exit ?_
    show J _ _ _ _ _ _
    refine J_rs ?_
    have hil : i = l.length := by have := of_decide_eq_false hb11; omega
    refine R_p Wide.wide (P_move rfl) rfl rfl ?_
    refine R_bslice Wide.wide Try.underlying49 Try.type5 rfl (ivs := [(0, .int .u8 0), (1, .int .u8 1)]) rfl rfl rfl rfl (fun b25 => ?_)
    refine R_appb Wide.wide 1 rfl rfl rfl Try.underlying49 Try.type5 rfl rfl rfl rfl (ys := [0, 1]) (Src.box0 0 rfl) rfl (by simp only [List.length_append, List.length_cons, List.length_nil]; have := encT0_length (l.take i); have := List.length_take_le i l; omega) rfl (fun v26 => ?_)
    refine JL_drop 0 ?_
    refine R_p Wide.wide (P_assign rfl) rfl rfl ?_
    refine JL_nil ?_
    refine J_ret ?_
    refine FinM.nil _ (.inl rfl) (R' := [ownb 5 v26 (xs ++ encT l)]) [] (by subst hil; simp [encT, List.set, List.eraseIdx]) (Reads.one rfl (RV.tmp rfl)) fun _ _ => rfl

set_option maxRecDepth 100000 in
theorem c37 {v : Value} {xs : List UInt8} {x : V} (hb : xs.length + 2 * x.s.length + 20 ≤ 100000000) : Ct Try.prog 37 [v, .agg x.cells.toArray].toArray [ownb 5 v xs] (fun _ => True) (fun u R' _ => R' = [ownb 5 u (xs ++ encV x)]) := by
  refine ct_of_JM Try.func37 rfl inferInstance 34 Try.ntmps37 (Nat.le_of_ble_eq_true rfl) fun W0 h0 => ?_
  refine J_rs ?_
  refine R_box Wide.wide rfl rfl rfl (fun b3 => ?_)
  refine R_p Wide.wide (P_assign rfl) rfl rfl ?_
  refine JL_nil ?_
  refine J_rs ?_
  refine R_p Wide.wide (P_move rfl) rfl rfl ?_
  refine R_p Wide.wide (P_fieldAddr rfl Try.underlying36 rfl Try.type3 rfl rfl) rfl rfl ?_
  refine R_loadb Wide.wide 0 rfl rfl _ Try.underlying3 rfl rfl rfl ?_
  refine R_p Wide.wide (P_convi rfl Try.underlying3 Try.underlying5 ((kb x.k).toNat : Int) (kb_spec _)) rfl rfl ?_
  refine R_bslice Wide.wide Try.underlying49 Try.type5 rfl (ivs := [(0, .int .u8 ((kb x.k).toNat : Int))]) rfl rfl rfl rfl (fun b9 => ?_)
  refine R_appb Wide.wide 2 rfl rfl rfl Try.underlying49 Try.type5 rfl rfl rfl rfl (ys := [kb x.k]) (Src.box0 0 rfl) rfl (by simp only [List.length_append, List.length_cons, List.length_nil]; omega) rfl (fun v10 => ?_)
  refine JL_drop 0 ?_
  refine R_p Wide.wide (P_assign rfl) rfl rfl ?_
  refine JL_nil ?_
  refine J_seq ?_
  refine J_rs ?_
  refine R_p Wide.wide (P_fieldAddr rfl Try.underlying36 rfl Try.type3 rfl rfl) rfl rfl ?_
  refine R_loadb Wide.wide 0 rfl rfl _ Try.underlying3 rfl rfl rfl ?_
  refine JL_nil ?_
  refine J_block ?_
  refine J_rs ?_
  refine R_p Wide.wide (P_eqi rfl rfl) rfl rfl ?_
  refine R_p Wide.wide (P_assign rfl) rfl rfl ?_
  refine JL_nil ?_
  refine J_ifs rfl (fun hb13 => ?_) (fun hb13 => ?_)
  · refine J_rs ?_
    refine R_p Wide.wide (P_move rfl) rfl rfl ?_
    refine R_p Wide.wide (P_fieldAddr rfl Try.underlying36 rfl Try.type2 rfl rfl) rfl rfl ?_
    refine R_loadb Wide.wide 0 rfl rfl _ Try.underlying2 rfl rfl rfl ?_
    refine R_p Wide.wide (P_convi rfl Try.underlying2 Try.underlying5 ((kb x.n).toNat : Int) (kb_spec _)) rfl rfl ?_
    refine R_bslice Wide.wide Try.underlying49 Try.type5 rfl (ivs := [(0, .int .u8 ((kb x.n).toNat : Int))]) rfl rfl rfl rfl (fun b19 => ?_)
    refine R_appb Wide.wide 2 rfl rfl rfl Try.underlying49 Try.type5 rfl rfl rfl rfl (ys := [kb x.n]) (Src.box0 0 rfl) rfl (by simp only [List.length_append, List.length_cons, List.length_nil]; omega) rfl (fun v20 => ?_)
    refine JL_drop 0 ?_
    refine R_p Wide.wide (P_assign rfl) rfl rfl ?_
    refine JL_nil ?_
    refine J_ret ?_
    refine FinM.nil _ (.inl rfl) (R' := [ownb 5 v20 (xs ++ [kb x.k] ++ [kb x.n])]) [.box b3 36 x.cells] (List.Perm.swap _ _ []) (Reads.one rfl (RV.tmp rfl)) fun _ _ => ?_
    have e : encV x = [kb x.k] ++ [kb x.n] := by simp_all [encV]
    rw [e, List.append_assoc]
  · refine J_seq ?_
    refine J_rs ?_
    refine R_p Wide.wide (P_eqi rfl rfl) rfl rfl ?_
    refine R_p Wide.wide (P_assign rfl) rfl rfl ?_
    refine JL_nil ?_
    refine J_ifs rfl (fun hb21 => ?_) (fun hb21 => ?_)
    · refine J_skip ?_
      show J _ _ _ _ _ _
      refine J_ift rfl ?_
      refine J_rs ?_
      refine R_p Wide.wide (P_move rfl) rfl rfl ?_
      refine R_p Wide.wide (P_fieldAddr rfl Try.underlying36 rfl Try.type9 rfl rfl) rfl rfl ?_
      refine R_loadb Wide.wide 0 rfl rfl _ Try.underlying9 rfl rfl rfl ?_
      refine R_call Wide.wide Try.call49 rfl (c49 (xs := xs ++ [kb x.k]) (by simp only [List.length_append, List.length_cons, List.length_nil]; omega)) (rest := [.box b3 36 x.cells]) (List.Perm.swap _ _ []) (fun h hf => trivial) (fun _ _ => inferInstance) rfl (fun v28 R28 => ?_)
      refine JL_fact (p := R28 = [ownb 5 v28 (xs ++ [kb x.k] ++ encT x.s)]) (fun h hf => hf.2) (fun hR28 => ?_)
      subst hR28
      refine R_p Wide.wide (P_assign rfl) rfl rfl ?_
      refine JL_nil ?_
      refine J_ret ?_
      refine FinM.nil _ (.inl rfl) (R' := [ownb 5 v28 (xs ++ [kb x.k] ++ encT x.s)]) [.box b3 36 x.cells] (List.Perm.refl _) (Reads.one rfl (RV.tmp rfl)) fun _ _ => ?_
      have e : encV x = [kb x.k] ++ encT x.s := by simp_all [encV]
      rw [e, List.append_assoc]
    · refine J_rs ?_
      refine R_p Wide.wide (P_eqi rfl rfl) rfl rfl ?_
      refine R_p Wide.wide (P_assign rfl) rfl rfl ?_
      refine JL_nil ?_
      refine J_ifs rfl (fun hb21 => ?_) (fun hb21 => ?_)
      · refine J_skip ?_
        show J _ _ _ _ _ _
        refine J_ift rfl ?_
        refine J_rs ?_
        refine R_p Wide.wide (P_move rfl) rfl rfl ?_
        refine R_p Wide.wide (P_fieldAddr rfl Try.underlying36 rfl Try.type9 rfl rfl) rfl rfl ?_
        refine R_loadb Wide.wide 0 rfl rfl _ Try.underlying9 rfl rfl rfl ?_
        refine R_call Wide.wide Try.call49 rfl (c49 (xs := xs ++ [kb x.k]) (by simp only [List.length_append, List.length_cons, List.length_nil]; omega)) (rest := [.box b3 36 x.cells]) (List.Perm.swap _ _ []) (fun h hf => trivial) (fun _ _ => inferInstance) rfl (fun v28 R28 => ?_)
        refine JL_fact (p := R28 = [ownb 5 v28 (xs ++ [kb x.k] ++ encT x.s)]) (fun h hf => hf.2) (fun hR28 => ?_)
        subst hR28
        refine R_p Wide.wide (P_assign rfl) rfl rfl ?_
        refine JL_nil ?_
        refine J_ret ?_
        refine FinM.nil _ (.inl rfl) (R' := [ownb 5 v28 (xs ++ [kb x.k] ++ encT x.s)]) [.box b3 36 x.cells] (List.Perm.refl _) (Reads.one rfl (RV.tmp rfl)) fun _ _ => ?_
        have e : encV x = [kb x.k] ++ encT x.s := by simp_all [encV]
        rw [e, List.append_assoc]
      · refine J_region ?_
        refine R_p Wide.wide (P_eqi rfl rfl) rfl rfl ?_
        refine R_p Wide.wide (P_assign rfl) rfl rfl ?_
        refine JL_nil ?_
        refine J_ifs rfl (fun hb21 => ?_) (fun hb21 => ?_)
        · refine J_rs ?_
          refine R_p Wide.wide (P_move rfl) rfl rfl ?_
          refine R_p Wide.wide (P_fieldAddr rfl Try.underlying36 rfl Try.type9 rfl rfl) rfl rfl ?_
          refine R_loadb Wide.wide 0 rfl rfl _ Try.underlying9 rfl rfl rfl ?_
          refine R_call Wide.wide Try.call49 rfl (c49 (xs := xs ++ [kb x.k]) (by simp only [List.length_append, List.length_cons, List.length_nil]; omega)) (rest := [.box b3 36 x.cells]) (List.Perm.swap _ _ []) (fun h hf => trivial) (fun _ _ => inferInstance) rfl (fun v28 R28 => ?_)
          refine JL_fact (p := R28 = [ownb 5 v28 (xs ++ [kb x.k] ++ encT x.s)]) (fun h hf => hf.2) (fun hR28 => ?_)
          subst hR28
          refine R_p Wide.wide (P_assign rfl) rfl rfl ?_
          refine JL_nil ?_
          refine J_ret ?_
          refine FinM.nil _ (.inl rfl) (R' := [ownb 5 v28 (xs ++ [kb x.k] ++ encT x.s)]) [.box b3 36 x.cells] (List.Perm.refl _) (Reads.one rfl (RV.tmp rfl)) fun _ _ => ?_
          have e : encV x = [kb x.k] ++ encT x.s := by simp_all [encV]
          rw [e, List.append_assoc]
        · refine J_skip ?_
          show J _ _ _ _ _ _
          refine J_rs ?_
          refine R_p Wide.wide (P_move rfl) rfl rfl ?_
          refine R_p Wide.wide (P_fieldAddr rfl Try.underlying36 rfl Try.type2 rfl rfl) rfl rfl ?_
          refine R_loadb Wide.wide 0 rfl rfl _ Try.underlying2 rfl rfl rfl ?_
          refine R_fn Wide.wide Try.call36 rfl c36 (fun h hf => trivial) (fun _ => inferInstance) rfl (fun v32 => ?_)
          refine JL_ex (fun (b : Nat) h => v32 = .slice (some ⟨b, 0, none⟩) 8 8 ∧ RdC h b 0 (cb (encN x.n))) (fun _ => inferInstance) (fun h hf => hf.2) fun b32 => ?_
          refine JL_fact (fun h hf => hf.2.1) fun e32 => ?_
          subst e32
          refine R_appb Wide.wide 1 rfl rfl rfl Try.underlying49 Try.type5 rfl rfl rfl rfl (ys := encN x.n) (Src.fact fun h hf j u hj => by rw [add_none]; exact hf.2.2 j u hj) (encN_length _) (by simp only [List.length_append, List.length_cons, List.length_nil]; rw [encN_length]; omega) rfl (fun v33 => ?_)
          refine R_p Wide.wide (P_assign rfl) rfl rfl ?_
          refine JL_nil ?_
          refine J_ret ?_
          refine FinM.nil _ (.inl rfl) (R' := [ownb 5 v33 (xs ++ [kb x.k] ++ encN x.n)]) [.box b3 36 x.cells] (List.Perm.swap _ _ []) (Reads.one rfl (RV.tmp rfl)) fun _ _ => ?_
          have e : encV x = [kb x.k] ++ encN x.n := by simp_all [encV]
          rw [e, List.append_assoc]

end Go.Proofs.Ytgheodbcgddjlaa
