/- Walks: what an index tells. -/
import Derived.Test.YtgheodbcgddjlaaS8
set_option linter.unusedVariables false
set_option linter.unusedSimpArgs false
namespace Go.Proofs.Ytgheodbcgddjlaa
open Go.RowKit Go.Grow Go.Hl Go.Ix

set_option maxRecDepth 100000 in
theorem c30 {xv pv : Value} {o : Int} {ts : Nat → T} {pre : List UInt8} {c1 c2 c3 : Nat} (ho : 1 ≤ o ∧ o ≤ 4) (hpl : pre.length ≤ 1000000) (hcnt : (ts o.toNat).sh.cnt ≤ 200000) (hkl : ∀ x ∈ fromT pre (ts o.toNat), x.key.length ≤ 1000000) : SeqCt Try.prog 30 [.pointer (some ⟨c1, 0, none⟩), .pointer (some ⟨c2, 0, none⟩), .pointer (some ⟨c3, 0, none⟩)] [] (Kx xv pv o ts pre c1 c2 c3) (fun d : D => [.agg d.cells.toArray]) (beginL o pre (ts o.toNat)) (fun R' _ => R' = []) := by
  intro ly Y Z mY mZ hy r
  have ea : #[Value.func (.yield ly) #[] #[]] ++ [Value.pointer (some ⟨c1, 0, none⟩), .pointer (some ⟨c2, 0, none⟩), .pointer (some ⟨c3, 0, none⟩)].toArray = [Value.func (.yield ly) #[] #[], .pointer (some ⟨c1, 0, none⟩), .pointer (some ⟨c2, 0, none⟩), .pointer (some ⟨c3, 0, none⟩)].toArray := by simp
  rw [ea]
  refine ct_of_JM Try.func30 rfl ⟨fun hle z => ⟨Mono.le (F := fun h => Kx (xv) pv o ts pre c1 c2 c3 h) hle z.1, (mY _ _).le hle z.2⟩⟩ 48 Try.ntmps30 (Nat.le_of_ble_eq_true rfl) fun W0 h0 => ?_
  refine J_scope ?_
  refine J_seq ?_
  refine J_rs ?_
  refine R_load Wide.wide rfl _ Try.underlying25 rfl rfl (fun h hf => RdC.of_cells (cs := [xv]) hf.1.1.1 0 _ rfl) ?_
  refine JL_or (G1 := fun _ => xv = .pointer none ∧ ∀ i, ts i = .nil) (G2 := fun h => ∃ (a : Nat) (vs : List Value), xv = .pointer (some ⟨a, 0, none⟩) ∧ h a = some (.cells vs.toArray 47 (0, 0)) ∧ Ixc h vs ts) inferInstance inferInstance (fun h hf => hf.1.2.1) ?_ ?_
  · refine JL_fact (fun h hf => hf.2) fun e11 => ?_
    obtain ⟨rfl, ets⟩ := e11
    refine R_p Wide.wide (P_eqn rfl rfl Try.underlying25) rfl rfl ?_
    refine JL_nil ?_
    refine J_ift rfl ?_
    refine J_ret ?_
    refine FinM.nil _ (.inl rfl) (R' := [r]) [] (List.Perm.refl _) (Reads.none rfl) fun h hf => ⟨r, [], rfl, .inl ⟨?_, rfl⟩⟩
    rw [ets, beginL_nil]; exact hf.1.2
  · refine JL_ex (fun (q : Nat × List Value) h => xv = .pointer (some ⟨q.1, 0, none⟩) ∧ h q.1 = some (.cells q.2.toArray 47 (0, 0)) ∧ Ixc h q.2 ts) (fun _ => inferInstance) (fun h hf => let ⟨a, vs, e⟩ := hf.2; ⟨(a, vs), e⟩) ?_
    rintro ⟨ai, vs⟩
    refine JL_fact (fun h hf => hf.2.1) fun e11 => ?_
    subst e11
    refine JL_fact (fun h hf => hf.2.2.2.1) fun hvl0 => ?_
    have hvl : vs.length = 5 := hvl0
    refine R_p Wide.wide (P_eqn rfl rfl Try.underlying25) rfl rfl ?_
    refine JL_nil ?_
    refine J_iff rfl ?_
    refine J_skip ?_
    show J _ _ _ _ _ _
    refine J_rs ?_
    refine R_load Wide.wide rfl _ Try.underlying49 rfl rfl (fun h hf => RdC.of_cells (cs := [pv]) hf.1.1.1.1.2.1 0 _ rfl) ?_
    refine R_fn Wide.wide Try.call31 rfl (c31 (v := pv) (l := pre) hpl) (fun h hf => hf.1.1.1.2.2) (fun _ => inferInstance) rfl (fun v15 => ?_)
    refine JL_ex (fun (q : Value × Bool) h => v15 = .tuple #[q.1, .bool q.2] ∧ Bs h q.1 (endP pre)) (fun _ => inferInstance) (fun h hf => by
      rcases hf.2 with ⟨h1, h2⟩ | ⟨h1, w, h2, h3⟩
      · exact ⟨(.slice none 0 0, false), h2, by rw [endP, if_pos h1]; exact .inl ⟨rfl, rfl, rfl⟩⟩
      · exact ⟨(w, true), h2, by rw [endP, if_neg (by omega)]; exact h3⟩) ?_
    rintro ⟨w15, b15⟩
    refine JL_fact (fun h hf => hf.2.1) fun e15 => ?_
    subst e15
    refine R_p Wide.wide (P_move rfl) rfl rfl ?_
    refine R_p Wide.wide (P_extract rfl rfl) rfl rfl ?_
    refine R_p Wide.wide (P_extract rfl rfl) rfl rfl ?_
    refine R_p Wide.wide (P_assign rfl) rfl rfl ?_
    refine R_p Wide.wide (P_assign rfl) rfl rfl ?_
    refine JL_nil ?_
    refine J_seq ?_
    refine J_label ?_
    show J _ _ _ _ _ _
    refine J_facts (hG := ⟨fun hle z => ⟨Mono.le (F := fun h => (Kx (.pointer (some ⟨ai, 0, none⟩)) pv o ts pre c1 c2 c3 h ∧ h ai = some (.cells vs.toArray 47 (0, 0)) ∧ Ixc h vs ts) ∧ Bs h w15 (endP pre)) hle z.1, (mY _ _).le hle z.2⟩⟩) (fun h => ((Kx (.pointer (some ⟨ai, 0, none⟩)) pv o ts pre c1 c2 c3 h ∧ h ai = some (.cells vs.toArray 47 (0, 0)) ∧ Ixc h vs ts) ∧ Bs h w15 (endP pre)) ∧ Y [] r h) (fun h hf => ⟨⟨⟨hf.1.1.1.1.1, hf.1.1.2.2⟩, hf.2.2⟩, hf.1.1.1.1.2⟩) ?_
    refine J_ds Wide.wide 11 [(8, fun _ u h => ∃ kvs, Rd h u (rangeT pre (endP pre) (ts o.toNat)).length (kvs.flatMap pairC) ∧ KVs h kvs ((rangeT pre (endP pre) (ts o.toNat)).map T.key))] rfl (by kernel_rfl) ?_
    refine G_load rfl _ Try.underlying25 rfl rfl rfl (fun h hf hg => RdC.of_cells (cs := [.pointer (some ⟨ai, 0, none⟩)]) hf.1.1.1.1.1 0 _ rfl) ?_
    refine G_load rfl _ Try.underlying3 rfl rfl rfl (fun h hf hg => RdC.of_cells (cs := [.int .i64 o]) hf.1.1.1.1.2.2 0 _ rfl) ?_
    refine G_p (P_nil rfl) rfl rfl ?_
    refine G_p (P_fieldAddr rfl Try.underlying47 rfl Try.type45 rfl rfl) rfl rfl ?_
    refine G_p (P_indexArr (i := o.toNat) rfl (by rw [Int.toNat_of_nonneg (by omega)]; rfl) Try.underlying45 Try.type44 rfl (by omega)) rfl rfl ?_
    refine G_load rfl _ Try.underlying44 rfl rfl rfl (fun h hf hg => RdC.of_cells hf.1.1.2.1 (o.toNat * 1) (vs.getD o.toNat undef) (by rw [Nat.mul_one, List.getD_eq_getElem?_getD, List.getElem?_eq_getElem (by omega)]; rfl)) ?_
    refine G_load rfl _ Try.underlying49 rfl rfl rfl (fun h hf hg => RdC.of_cells (cs := [pv]) hf.1.1.1.1.2.1 0 _ rfl) ?_
    refine G_p (P_move rfl) rfl rfl ?_
    refine G_fn Try.call32 rfl (c32 (t := ts o.toNat) (lo := pre) (to := endP pre) hcnt (fun x hx => Nat.le_trans (hkl x hx) (by omega))) (fun h hf hg => ⟨hf.1.1.2.2.2 _ (by omega), hf.1.1.1.2.2, hf.1.2⟩) rfl (fun _ _ z => z) (fun _ => inferInstance) rfl (fun v26 => ?_)
    refine G_ex (fun _ => inferInstance) fun kvs => ?_
    refine G_leng rfl (fun h hf hg => (hg _ (List.mem_cons_self ..) (by kernel_rfl)).1) Try.underlying75 rfl rfl ?_
    refine G_p (P_move rfl) rfl rfl ?_
    refine G_nil ?_
    refine JL_nil ?_
    refine J_block ?_
    refine J_round (ι := {p : Nat × List D × Res // p.1 ≤ (rangeT pre (endP pre) (ts o.toNat)).length ∧ beginL o pre (ts o.toNat) = p.2.1 ++ readAll o (((rangeT pre (endP pre) (ts o.toNat)).map T.key).drop p.1)}) (fun p => ⟨[(0, .func (.yield ly) #[] #[]), (1, .pointer (some ⟨c1, 0, none⟩)), (2, .pointer (some ⟨c2, 0, none⟩)), (3, .pointer (some ⟨c3, 0, none⟩)), (26, v26), (27, .int .i64 (rangeT pre (endP pre) (ts o.toNat)).length), (28, .int .i64 (p.1.1 : Nat))], [p.1.2.2], fun h => (Kx (.pointer (some ⟨ai, 0, none⟩)) pv o ts pre c1 c2 c3 h ∧ Rd h v26 (rangeT pre (endP pre) (ts o.toNat)).length (kvs.flatMap pairC) ∧ KVs h kvs ((rangeT pre (endP pre) (ts o.toNat)).map T.key)) ∧ Y p.1.2.1 p.1.2.2 h, ⟨fun hle z => ⟨Mono.le (F := fun h => Kx (.pointer (some ⟨ai, 0, none⟩)) pv o ts pre c1 c2 c3 h ∧ Rd h v26 (rangeT pre (endP pre) (ts o.toNat)).length (kvs.flatMap pairC) ∧ KVs h kvs ((rangeT pre (endP pre) (ts o.toNat)).map T.key)) hle z.1, (mY _ _).le hle z.2⟩⟩, []⟩) (fun p => (rangeT pre (endP pre) (ts o.toNat)).length - p.1.1) ⟨(0, [], r), Nat.zero_le _, rfl⟩ (Le.mk ⟨rfl, rfl, rfl, rfl, rfl, rfl, rfl, trivial⟩ rfl rfl fun _ hf => ⟨⟨hf.1.1.1.1, hf.2.1⟩, hf.1.2⟩) ?_
    rintro ⟨⟨i, told, r⟩, hi, hrel⟩
    dsimp only at hi hrel ⊢
    have hN : (rangeT pre (endP pre) (ts o.toNat)).length ≤ 200000 := Nat.le_trans (rangeT_length _ _ _) hcnt
    refine J_rs ?_
    refine R_p Wide.wide (P_lss rfl rfl) rfl rfl ?_
    refine JL_nil ?_
    refine J_seq ?_
    refine J_ifs rfl (fun hb29 => ?_) (fun hb29 => ?_)
    · refine J_skip ?_
      show J _ _ _ _ _ _
      refine J_seq ?_
      refine J_block ?_
      refine J_rs ?_
      have hlt : i < (rangeT pre (endP pre) (ts o.toNat)).length := by have := of_decide_eq_true hb29; omega
      have hlk : i < ((rangeT pre (endP pre) (ts o.toNat)).map T.key).length := by rw [List.length_map]; exact hlt
      refine JL_fact (fun h hf => hf.1.2.2.length) fun hlv => ?_
      have hgk : ((rangeT pre (endP pre) (ts o.toNat)).map T.key)[i]? = some ((rangeT pre (endP pre) (ts o.toNat)).map T.key)[i] := List.getElem?_eq_getElem _
      have hdr : ((rangeT pre (endP pre) (ts o.toNat)).map T.key).drop i = ((rangeT pre (endP pre) (ts o.toNat)).map T.key)[i] :: ((rangeT pre (endP pre) (ts o.toNat)).map T.key).drop (i + 1) := List.drop_eq_getElem_cons _
      have hmem : ((rangeT pre (endP pre) (ts o.toNat)).map T.key)[i] ∈ ((rangeT pre (endP pre) (ts o.toNat)).map T.key) := List.getElem_mem _
      have hget : kvs[i]? = some kvs[i] := List.getElem?_eq_getElem (by omega)
      have hkv := hget
      have hkk := hgk
      generalize ((rangeT pre (endP pre) (ts o.toNat)).map T.key)[i] = ky at hdr hgk hkk hmem
      generalize kvs[i] = kv at hget hkv
      have hky : ky.length ≤ 1000000 := by
        obtain ⟨x, hx, rfl⟩ := List.mem_map.1 hmem
        exact hkl x ((List.takeWhile_prefix _).subset hx)
      refine JL_fact (fun h hf => Bs.one2 (hf.1.2.2.get hkv hkk)) fun hk2 => ?_
      refine R_indexf Wide.wide rfl rfl (fun h hf => hf.1.2.1) hlt Try.underlying75 Try.type78 rfl rfl (fun b30 off30 => ?_)
      refine R_loads Wide.wide (cs := pairC kv) rfl _ Try.underlying78 rfl Try.type78 rfl rfl (fun h hf => RdC.elem hf.2 pairC_length hget) ?_
      refine R_alloc Wide.wide Try.type78 rfl rfl rfl (fun b8 => ?_)
      refine R_store Wide.wide 0 (vs := pairC kv) rfl rfl rfl rfl Try.type78 rfl (Nat.le_of_ble_eq_true rfl) (by simp only [pairC, List.all_cons, hk2.2]; rfl) (cs' := pairC kv) rfl rfl ?_
      refine JL_nil ?_
      refine J_rs ?_
      refine R_load Wide.wide rfl _ Try.underlying3 rfl rfl (fun h hf => RdC.of_cells (cs := [.int .i64 o]) hf.1.1.1.1.2.2 0 _ rfl) ?_
      refine R_p Wide.wide (P_fieldAddr rfl Try.underlying78 rfl Try.type49 rfl rfl) rfl rfl ?_
      refine R_loadb Wide.wide 0 rfl rfl _ Try.underlying49 rfl rfl rfl ?_
      refine R_fv Wide.wide Try.call33 rfl (c33 (l := ky) hky) (fun h hf => hf.1.1.2.2.get hkv hkk) rfl ?_
      refine R_p Wide.wide (P_move rfl) rfl rfl ?_
      refine R_p Wide.wide (P_extract rfl rfl) rfl rfl ?_
      refine R_p Wide.wide (P_extract rfl rfl) rfl rfl ?_
      refine R_alloc Wide.wide Try.type43 rfl rfl rfl (fun b9 => ?_)
      refine R_store Wide.wide 0 (vs := (readD o ky).2.cells) rfl rfl rfl rfl Try.type43 rfl (Nat.le_of_ble_eq_true rfl) rfl (cs' := (readD o ky).2.cells) rfl rfl ?_
      refine R_p Wide.wide (P_assign rfl) rfl rfl ?_
      refine JL_nil ?_
      refine J_rs ?_
      refine R_p Wide.wide (P_move rfl) rfl rfl ?_
      refine R_p Wide.wide (P_nei rfl rfl) rfl rfl ?_
      refine R_p Wide.wide (P_move rfl) rfl rfl ?_
      refine R_gd Wide.wide rfl rfl rfl (fun hb41 => ?_) (fun hb41 => ?_)
      · refine R_p Wide.wide (P_move rfl) rfl rfl ?_
        refine R_gy rfl rfl ?_
        refine R_loadbs Wide.wide 0 (vs := (readD o ky).2.cells) rfl rfl _ Try.underlying43 rfl Try.type43 rfl rfl rfl ?_
        refine R_gy rfl rfl ?_
        have he0 : (readD o ky).1 = 0 := by have h1 := hb41; simp at h1; exact h1
        have hsp : beginL o pre (ts o.toNat) = told ++ (readD o ky).2 :: readAll o (((rangeT pre (endP pre) (ts o.toNat)).map T.key).drop (i + 1)) := by rw [hrel, hdr, readAll, if_pos he0]
        refine R_yieldY (.inl rfl) mY mZ hy (pre := told) (x := (readD o ky).2) (suf := readAll o (((rangeT pre (endP pre) (ts o.toNat)).map T.key).drop (i + 1))) hsp rfl rfl (List.perm_append_comm (l₁ := [Res.box b9 43 (readD o ky).2.cells, .box b8 78 (pairC kv)]) (l₂ := [r])) (fun h hf => hf.1.2) rfl (fun r44 => ?_) (fun r44 => ?_)
        · refine R_gy rfl rfl ?_
          refine R_p Wide.wide (P_not rfl) rfl rfl ?_
          refine R_p Wide.wide (P_pickf rfl rfl) rfl rfl ?_
          refine JL_nil ?_
          refine J_iff rfl ?_
          refine J_skip ?_
          show J _ _ _ _ _ _
          refine J_region ?_
          refine R_p Wide.wide (P_add rfl rfl ((i + 1 : Nat) : Int) (w64x (by omega) (by omega))) rfl rfl ?_
          refine R_p Wide.wide (P_move rfl) rfl rfl ?_
          refine JL_nil ?_
          exact ⟨⟨(i + 1, told ++ [(readD o ky).2], r44), hlt, by rw [hsp]; simp⟩, by simp only; omega, Le.drop 1 (Le.drop 1 (Le.mk ⟨rfl, rfl, rfl, rfl, rfl, rfl, rfl, trivial⟩ rfl rfl fun _ hf => ⟨hf.1.1.1, hf.2⟩))⟩
        · refine R_gy rfl rfl ?_
          refine R_p Wide.wide (P_not rfl) rfl rfl ?_
          refine R_p Wide.wide (P_pickf rfl rfl) rfl rfl ?_
          refine JL_nil ?_
          refine J_ift rfl ?_
          refine J_exit ?_
          show FinM _ _ _ _ _
          refine FinM.nil _ (.inr rfl) (R' := [r44]) [.box b9 43 (readD o ky).2.cells, .box b8 78 (pairC kv)] (List.Perm.refl _) (Reads.none rfl) fun h hf => ⟨r44, [], rfl, .inr ⟨_, ⟨_, (cons_mid hsp).symm⟩, hf.2⟩⟩
      · refine R_gn Wide.wide rfl rfl rfl rfl ?_
        refine R_gn Wide.wide rfl rfl rfl rfl ?_
        refine R_gn Wide.wide rfl rfl rfl rfl ?_
        refine R_p Wide.wide (P_pickt rfl rfl) rfl rfl ?_
        refine JL_nil ?_
        refine J_ift rfl ?_
        refine J_exit ?_
        show FinM _ _ _ _ _
        have hx : beginL o pre (ts o.toNat) = told := by
          rw [hrel, hdr, readAll, if_neg (by have h1 := hb41; simp at h1; exact h1)]; simp
        refine FinM.nil _ (.inr rfl) (R' := [r]) [.box b9 43 (readD o ky).2.cells, .box b8 78 (pairC kv)] (List.perm_append_comm (l₁ := [Res.box b9 43 (readD o ky).2.cells, .box b8 78 (pairC kv)]) (l₂ := [r])) (Reads.none rfl) fun h hf => ⟨r, [], rfl, .inl ⟨?_, rfl⟩⟩
        rw [hx]; exact hf.1.2
    · refine J_exit ?_
      show FinM _ _ _ _ _
      have hil : i = (rangeT pre (endP pre) (ts o.toNat)).length := by have := of_decide_eq_false hb29; omega
      have hx : beginL o pre (ts o.toNat) = told := by rw [hrel, List.drop_eq_nil_of_le (by rw [List.length_map]; omega)]; simp [readAll]
      refine FinM.nil _ (.inr rfl) (R' := [r]) [] (List.Perm.refl _) (Reads.none rfl) fun h hf => ⟨r, [], rfl, .inl ⟨?_, rfl⟩⟩
      rw [hx]; exact hf.2

set_option maxRecDepth 100000 in
theorem c16 {xv pv : Value} {o : Int} {ts : Nat → T} {pre : List UInt8} : FnC Try.prog 16 [xv, .int .i64 o, pv].toArray (fun h => Ixp h xv ts ∧ Bs h pv pre) (fun u h => ∃ c1 c2 c3, u = .func (.func 30) #[] [.pointer (some ⟨c1, 0, none⟩), .pointer (some ⟨c2, 0, none⟩), .pointer (some ⟨c3, 0, none⟩)].toArray ∧ Kx xv pv o ts pre c1 c2 c3 h) := by
  refine fn_of_J Try.func16 rfl inferInstance 8 Try.ntmps16 (Nat.le_of_ble_eq_true rfl) fun W0 h0 => ?_
  refine J_pure (fun h hf => hf.1.one) fun hx => ?_
  refine J_pure (fun h hf => Rd.one hf.2) fun hp => ?_
  refine J_rs ?_
  refine R_box Wide.wide (cs := [xv]) rfl hx.2.1 rfl (fun b3 => ?_)
  refine R_box Wide.wide rfl rfl rfl (fun b4 => ?_)
  refine R_box Wide.wide (cs := [pv]) rfl hp.2.1 rfl (fun b5 => ?_)
  refine R_p Wide.wide (P_assign rfl) rfl rfl ?_
  refine JL_nil ?_
  refine J_rs ?_
  refine R_p Wide.wide (P_func (vs := []) (us := [.pointer (some ⟨b3, 0, none⟩), .pointer (some ⟨b5, 0, none⟩), .pointer (some ⟨b4, 0, none⟩)]) rfl rfl) rfl rfl ?_
  refine R_p Wide.wide (P_assign rfl) rfl rfl ?_
  refine JL_nil ?_
  refine J_pubbox (b := b5) (t := 49) (cs := [pv]) [] [.box b4 3 [.int .i64 o], .box b3 25 [xv]] rfl ?_
  refine J_pubbox (b := b4) (t := 3) (cs := [.int .i64 o]) [] [.box b3 25 [xv]] rfl ?_
  refine J_pubbox (b := b3) (t := 25) (cs := [xv]) [] [] rfl ?_
  refine J_ret ?_
  refine Fin.ret _ (.inl rfl) rfl (Reads.one rfl (RV.tmp rfl)) fun h hf => ⟨b3, b5, b4, rfl, ⟨hf.2, hf.1.1.2, hf.1.2⟩, hf.1.1.1⟩

set_option maxRecDepth 100000 in
theorem c29 {gf : FuncId} {lb : List Value} {Fc : Hp → Prop} {xs : List D} (hm : Mono Fc) (hen : Enters Try.prog gf) (hseq : SeqCt Try.prog gf lb [] Fc (fun d : D => [.agg d.cells.toArray]) xs (fun R' _ => R' = [])) (hlen : xs.length ≤ 1000000) : FnC Try.prog 29 [.slice none 0 0, .func (.func gf) #[] lb.toArray].toArray (Fc) (fun u h => RdD h u xs) := by
  refine ct_of_JM (R := []) Try.func29 rfl hm 13 Try.ntmps29 (Nat.le_of_ble_eq_true rfl) fun W0 h0 => ?_
  refine J_rs ?_
  refine R_box Wide.wide rfl rfl rfl (fun b2 => ?_)
  refine R_p Wide.wide (P_assign rfl) rfl rfl ?_
  refine JL_nil ?_
  refine J_seq ?_
  refine J_rs ?_
  refine R_p Wide.wide (P_move rfl) rfl rfl ?_
  refine JL_nil ?_
  refine J_block ?_
  refine J_ownnil 43 9 ?_
  refine J_range (gf := gf) (lb := lb) (encs := fun d : D => [.agg d.cells.toArray]) (xs := xs) (Rit := []) rfl hen hseq (fun _ => inferInstance) (List.Perm.refl _) (fun h hf => hf) (fun _ => rfl) rfl
    (fun pre S => ∃ v, S.res = [.own v 43 9 pre.length (pre.flatMap D.cells), .box b2 22 [v]]) (fun _ _ _ => False) ⟨.slice none 0 0, rfl⟩ (fun W h M ly E E' pre d suf S hxs hT => ?_) (fun S Df R' hT hx => ?_) (fun S Df c pre hpre hX => ?_)
  · obtain ⟨v, hres⟩ := hT
    obtain ⟨ssl, sres, sfc, smn, sdf⟩ := S
    dsimp only at hres ⊢
    subst hres
    have hlen' : pre.length < 1000000 := by have := congrArg List.length hxs; simp at this; omega
    refine J_region ?_
    refine R_alloc (Wide.round ly) Try.type43 rfl rfl rfl (fun b5 => ?_)
    refine R_store (Wide.round ly) 0 rfl rfl rfl rfl Try.type43 rfl (Nat.le_of_ble_eq_true rfl) rfl rfl rfl ?_
    refine JL_nil ?_
    refine ⟨rfl, rfl, [.box b5 43 d.cells, .own v 43 9 pre.length (pre.flatMap D.cells), .box b2 22 [v]], rfl, ?_⟩
    refine J_block ?_
    refine J_region ?_
    refine R_loadb (Wide.round ly) 2 rfl rfl _ Try.underlying22 rfl rfl rfl ?_
    refine R_loadbs (Wide.round ly) 0 (vs := d.cells) rfl rfl _ Try.underlying43 rfl Try.type43 rfl rfl rfl ?_
    refine R_bslice (Wide.round ly) Try.underlying22 Try.type43 rfl (ivs := [(0, .agg d.cells.toArray)]) rfl rfl rfl rfl (fun b10 => ?_)
    refine R_append (Wide.round ly) 2 rfl rfl rfl Try.underlying22 Try.type43 rfl rfl rfl rfl (Src.box0 0 rfl) rfl rfl (by omega) rfl rfl (fun v11 => ?_)
    refine JL_own1 2 rfl (fun h11 g11 => ?_)
    refine R_store (Wide.round ly) 3 (vs := [v11]) rfl rfl rfl h11 Try.type22 rfl (Nat.le_of_ble_eq_true rfl) (by simp [g11]) rfl rfl ?_
    refine JL_nil ?_
    exact ⟨⟨[], [.own v11 43 9 (pre.length + 1) (pre.flatMap D.cells ++ d.cells), .box b2 22 [v11]], sfc, smn, []⟩, ⟨v11, by simp⟩, Le.drop 0 (Le.drop 0 (Le.mk trivial rfl rfl fun _ h => h))⟩
  · obtain ⟨v, hres⟩ := hT
    obtain ⟨ssl, sres, sfc, smn, sdf⟩ := S
    dsimp only at hres ⊢
    subst hres
    show J _ _ _ _ _ _
    refine J_pure (p := R' = []) (fun h hf => hf.2) fun hR => ?_
    subst hR
    refine J_rs ?_
    refine R_loadb Wide.wide 1 rfl rfl _ Try.underlying22 rfl rfl rfl ?_
    refine R_p Wide.wide (P_assign rfl) rfl rfl ?_
    refine JL_nil ?_
    refine J_pubown (v := v) [] [.box b2 22 [v], .obj Df shut] rfl ?_
    refine J_ret ?_
    refine FinM.cons _ (.inl rfl) [Df] (res' := [.box b2 22 [v]]) (R' := []) [.box b2 22 [v]] rfl (List.perm_append_comm (l₁ := [Res.box b2 22 [v]]) (l₂ := [Res.obj Df shut])) (List.Perm.refl _) (Reads.one rfl (RV.tmp rfl)) fun h hf => ⟨rfl, Row.rd hf.2⟩
  · exact hX.elim

set_option maxRecDepth 100000 in
theorem c15 {gf : FuncId} {lb : List Value} {Fc : Hp → Prop} {xs : List D} (hm : Mono Fc) (hen : Enters Try.prog gf) (hseq : SeqCt Try.prog gf lb [] Fc (fun d : D => [.agg d.cells.toArray]) xs (fun R' _ => R' = [])) (hlen : xs.length ≤ 1000000) : FnC Try.prog 15 [.func (.func gf) #[] lb.toArray].toArray (Fc) (fun u h => RdD h u xs) := by
  refine fn_of_J Try.func15 rfl hm 5 Try.ntmps15 (Nat.le_of_ble_eq_true rfl) fun W0 h0 => ?_
  refine J_rs ?_
  refine R_p Wide.wide (P_assign rfl) rfl rfl ?_
  refine JL_nil ?_
  refine J_rs ?_
  refine R_p Wide.wide (P_move rfl) rfl rfl ?_
  refine R_fn Wide.wide Try.call29 rfl (c29 hm hen hseq hlen) (fun h hf => hf) (fun _ => inferInstance) rfl (fun v4 => ?_)
  refine R_p Wide.wide (P_assign rfl) rfl rfl ?_
  refine JL_nil ?_
  refine J_ret ?_
  refine Fin.ret _ (.inl rfl) rfl (Reads.one rfl (RV.tmp rfl)) fun h hf => hf.2

set_option maxRecDepth 100000 in
theorem c7 {xv : Value} {ts : Nat → T} (hcnt : (ts 1).sh.cnt ≤ 200000) (hkl : ∀ x ∈ fromT [] (ts 1), x.key.length ≤ 1000000) : FnC Try.prog 7 [xv].toArray (fun h => Ixp h xv ts) (fun u h => RdD h u (beginL 1 [] (ts 1))) := by
  refine fn_of_J Try.func7 rfl inferInstance 6 Try.ntmps7 (Nat.le_of_ble_eq_true rfl) fun W0 h0 => ?_
  refine J_rs ?_
  refine R_p Wide.wide (P_assign rfl) rfl rfl ?_
  refine JL_nil ?_
  refine J_rs ?_
  refine R_p Wide.wide (P_move rfl) rfl rfl ?_
  refine R_fn Wide.wide Try.call16 rfl (c16 (o := 1) (ts := ts) (pre := [])) (fun h hf => ⟨hf, .inl ⟨rfl, rfl, rfl⟩⟩) (fun _ => inferInstance) rfl (fun v4 => ?_)
  refine JL_ex (fun (q : Nat × Nat × Nat) h => v4 = .func (.func 30) #[] [.pointer (some ⟨q.1, 0, none⟩), .pointer (some ⟨q.2.1, 0, none⟩), .pointer (some ⟨q.2.2, 0, none⟩)].toArray ∧ Kx xv (.slice none 0 0) 1 ts [] q.1 q.2.1 q.2.2 h) (fun _ => inferInstance) (fun h hf => let ⟨a, b, c, e⟩ := hf.2; ⟨(a, b, c), e⟩) ?_
  rintro ⟨c1, c2, c3⟩
  refine JL_fact (fun h hf => hf.2.1) fun e4 => ?_
  subst e4
  refine R_fn Wide.wide Try.call15 rfl (c15 (lb := [.pointer (some ⟨c1, 0, none⟩), .pointer (some ⟨c2, 0, none⟩), .pointer (some ⟨c3, 0, none⟩)]) (Fc := Kx xv (.slice none 0 0) 1 ts [] c1 c2 c3) inferInstance Try.call30 (c30 (by omega) (Nat.zero_le _) hcnt hkl) (Nat.le_trans (beginL_length _ _ _) (Nat.le_trans hcnt (by omega)))) (fun h hf => hf.2.2) (fun _ => inferInstance) rfl (fun v5 => ?_)
  refine R_p Wide.wide (P_assign rfl) rfl rfl ?_
  refine JL_nil ?_
  refine J_ret ?_
  refine Fin.ret _ (.inl rfl) rfl (Reads.one rfl (RV.tmp rfl)) fun h hf => hf.2

set_option maxRecDepth 100000 in
theorem c9 {xv : Value} {ts : Nat → T} : FnC Try.prog 9 [xv].toArray (fun h => Ixp h xv ts) (fun u _ => u = .int .i64 (ts 1).sh.mn) := by
  refine fn_of_J Try.func9 rfl inferInstance 11 Try.ntmps9 (Nat.le_of_ble_eq_true rfl) fun W0 h0 => ?_
  refine J_rs ?_
  refine R_p Wide.wide (P_assign rfl) rfl rfl ?_
  refine JL_nil ?_
  refine J_seq ?_
  refine J_rs ?_
  refine R_p Wide.wide (P_move rfl) rfl rfl ?_
  refine JL_or (G1 := fun _ => xv = .pointer none ∧ ∀ i, ts i = .nil) (G2 := fun h => ∃ (a : Nat) (vs : List Value), xv = .pointer (some ⟨a, 0, none⟩) ∧ h a = some (.cells vs.toArray 47 (0, 0)) ∧ Ixc h vs ts) inferInstance inferInstance (fun h hf => hf) ?_ ?_
  · refine JL_fact (fun h hf => hf.2) fun e11 => ?_
    obtain ⟨rfl, ets⟩ := e11
    refine R_p Wide.wide (P_eqn rfl rfl Try.underlying25) rfl rfl ?_
    refine JL_nil ?_
    refine J_ift rfl ?_
    refine J_rs ?_
    refine R_p Wide.wide (P_assign rfl) rfl rfl ?_
    refine JL_nil ?_
    refine J_ret ?_
    refine Fin.ret _ (.inl rfl) rfl (Reads.one rfl (RV.tmp rfl)) fun h hf => ?_
    rw [ets]; rfl
  · refine JL_ex (fun (q : Nat × List Value) h => xv = .pointer (some ⟨q.1, 0, none⟩) ∧ h q.1 = some (.cells q.2.toArray 47 (0, 0)) ∧ Ixc h q.2 ts) (fun _ => inferInstance) (fun h hf => let ⟨a, vs, e⟩ := hf.2; ⟨(a, vs), e⟩) ?_
    rintro ⟨ai, vs⟩
    refine JL_fact (fun h hf => hf.2.1) fun e11 => ?_
    subst e11
    refine JL_fact (fun h hf => hf.2.2.2.1) fun hvl0 => ?_
    have hvl : vs.length = 5 := hvl0
    refine R_p Wide.wide (P_eqn rfl rfl Try.underlying25) rfl rfl ?_
    refine JL_nil ?_
    refine J_iff rfl ?_
    refine J_skip ?_
    show J _ _ _ _ _ _
    refine J_rs ?_
    refine R_p Wide.wide (P_move rfl) rfl rfl ?_
    refine R_p Wide.wide (P_nil rfl) rfl rfl ?_
    refine R_p Wide.wide (P_fieldAddr rfl Try.underlying47 rfl Try.type45 rfl rfl) rfl rfl ?_
    refine R_p Wide.wide (P_indexArr (i := 1) rfl rfl Try.underlying45 Try.type44 rfl (by omega)) rfl rfl ?_
    refine R_load Wide.wide rfl _ Try.underlying44 rfl rfl (fun h hf => RdC.of_cells hf.2.2.1 1 (vs.getD 1 undef) (by rw [List.getD_eq_getElem?_getD, List.getElem?_eq_getElem (by omega)]; rfl)) ?_
    refine R_fv Wide.wide Try.call17 rfl (c17 (t := ts 1)) (fun h hf => hf.2.2.2.2 1 (by omega)) rfl ?_
    refine R_p Wide.wide (P_assign rfl) rfl rfl ?_
    refine JL_nil ?_
    refine J_ret ?_
    refine Fin.ret _ (.inl rfl) rfl (Reads.one rfl (RV.tmp rfl)) fun h hf => ?_
    rfl

end Go.Proofs.Ytgheodbcgddjlaa
