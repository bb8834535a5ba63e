/- Walks: datom.Read. -/
import Derived.Test.YtgheodbcgddjlaaO2
set_option linter.unusedVariables false
set_option linter.unusedSimpArgs false
namespace Go.Ix
open Go.Hl
theorem partsR_s : ∀ (ks : List Bool) (s : Rs), ∀ p ∈ (partsR ks s).1, p.v.s.length ≤ s.1.length
  | [], _, p, hp => by simp [partsR] at hp
  | k :: ks, s, p, hp => by
    simp only [partsR] at hp
    split at hp
    · simp at hp
    · rcases List.mem_cons.1 hp with rfl | hp
      · unfold partR
        cases k
        · exact Nat.zero_le _
        · exact (val0_length s).1
      · exact Nat.le_trans (partsR_s ks _ p hp) (partR_length k s)
theorem readP_s {ks : List Bool} {l : List UInt8} {ps : List Pt} (h : readP ks l = some ps) : ∀ p ∈ ps, p.v.s.length ≤ l.length := by
  unfold readP at h
  split at h
  · cases h
  · simp only [Option.some.injEq] at h
    subst h
    exact partsR_s ks (l, false)
theorem mkD_s (o : Int) {p0 p1 p2 p3 p4 p5 p6 : Pt} {n : Nat} (h : ∀ p ∈ [p0, p1, p2, p3, p4, p5, p6], p.v.s.length ≤ n) : (mkD o [p0, p1, p2, p3, p4, p5, p6]).v.s.length ≤ n := by
  unfold mkD
  simp only
  split
  · exact h p2 (by simp)
  · split
    · exact h p2 (by simp)
    · split
      · exact h p1 (by simp)
      · exact h p0 (by simp)
theorem RdC.mid {h : Hp} {b off : Nat} {xs : List Value} (H : RdC h b off xs) (k : Nat) {vs : List Value} (hv : (xs.drop k).take vs.length = vs) : ∀ j u, vs[j]? = some u → cellH h ((⟨b, off + k, none⟩ : Addr).add j) = some u := fun j u hj => by
  rw [add_none, Nat.add_assoc]
  refine H _ _ ?_
  rw [← hv, List.getElem?_take] at hj
  split at hj
  · rwa [List.getElem?_drop] at hj
  · cases hj
theorem seven {α : Type} {l : List α} (h : l.length = 7) : ∃ a b c d e f g, l = [a, b, c, d, e, f, g] := by
  match l, h with
  | [a, b, c, d, e, f, g], _ => exact ⟨a, b, c, d, e, f, g, rfl⟩
end Go.Ix
namespace Go.Proofs.Ytgheodbcgddjlaa
open Go.RowKit Go.Grow Go.Hl Go.Ix

set_option maxRecDepth 100000 in
theorem c33 {x : Int} {v : Value} {l : List UInt8} (hl : l.length ≤ 1000000) : FnC Try.prog 33 [.int .i64 x, v].toArray (fun h => Bs h v l) (fun u h => u = .tuple #[.agg (readD x l).2.cells.toArray, .int .i64 (readD x l).1]) := by
  refine ct_of_JM (R := []) Try.func33 rfl inferInstance 140 Try.ntmps33 (Nat.le_of_ble_eq_true rfl) fun W0 h0 => ?_
  refine J_rs ?_
  refine R_alloc Wide.wide Try.type43 rfl rfl rfl (fun b4 => ?_)
  refine R_p Wide.wide (P_assign rfl) rfl rfl ?_
  refine JL_nil ?_
  refine J_seq ?_
  refine J_rs ?_
  refine R_p Wide.wide (P_move rfl) rfl rfl ?_
  refine R_fv Wide.wide Try.call20 rfl c20 (fun h hf => trivial) rfl ?_
  refine R_p Wide.wide (P_not rfl) rfl rfl ?_
  refine JL_nil ?_
  refine J_ifs rfl (fun hb14 => ?_) (fun hb14 => ?_)
  · refine J_rs ?_
    refine R_p Wide.wide (P_build [1, 1, 3, 1, 1, 1, 1] Try.underlying43 Try.type43 rfl rfl (ivs := []) (cs := D0.cells) rfl rfl) rfl rfl ?_
    refine R_store Wide.wide 0 (vs := D0.cells) rfl rfl rfl rfl Try.type43 rfl (Nat.le_of_ble_eq_true rfl) rfl rfl rfl ?_
    refine R_p Wide.wide (P_assign rfl) rfl rfl ?_
    refine JL_nil ?_
    refine J_ret ?_
    refine FinM.nil _ (.inl rfl) (R' := []) _ (List.Perm.refl _) (Reads.two rfl (RV.cell 0 (t := 43) (cs := D0.cells) _ rfl rfl Try.underlying43 rfl Try.type43 rfl) (RV.tmp rfl)) fun h hf => ⟨rfl, ?_⟩
    simp_all [readD]
  · refine J_skip ?_
    show J _ _ _ _ _ _
    refine J_rs ?_
    refine R_alloc Wide.wide Try.type94 rfl rfl rfl (fun b6 => ?_)
    refine JL_nil ?_
    refine J_seq ?_
    refine J_rs ?_
    refine R_p Wide.wide (P_move rfl) rfl rfl ?_
    refine R_p Wide.wide (P_build [1, 1, 3, 1, 1, 1, 1] Try.underlying43 Try.type43 rfl rfl (ivs := []) (cs := D0.cells) rfl rfl) rfl rfl ?_
    refine R_fn Wide.wide Try.call34 rfl (c34 (d := D0)) (fun h hf => trivial) (fun _ => inferInstance) rfl (fun v18 => ?_)
    refine JL_ex (fun (p : Nat × Nat) h => v18 = .func (.func 44) #[] [.pointer (some ⟨p.1, 0, none⟩), .pointer (some ⟨p.2, 0, none⟩)].toArray ∧ h p.1 = some (.cells #[.int .i64 x] 3 (0, 0)) ∧ h p.2 = some (.cells (D.cells D0).toArray 43 (0, 0))) (fun _ => inferInstance) (fun h hf => let ⟨b2, b3, e⟩ := hf.2; ⟨(b2, b3), e⟩) ?_
    rintro ⟨c2, c3⟩
    refine JL_fact (fun h hf => hf.2.1) fun e18 => ?_
    subst e18
    refine JL_nil ?_
    refine J_block ?_
    refine J_ownnil 4 1 ?_
    refine J_range (gf := 44) (lb := [.pointer (some ⟨c2, 0, none⟩), .pointer (some ⟨c3, 0, none⟩)]) (encs := encP2) (xs := (partsL x D0).zipIdx) (Rit := []) rfl Try.call44 (c44 (d := D0)) (fun _ => inferInstance) (List.Perm.refl _) (fun h hf => ⟨hf.2.2.1, hf.2.2.2⟩) (fun _ => rfl) rfl
      (fun pre S => ∃ v', S.res = [.own v' 4 1 pre.length (bb (pre.map fun y => Pt.b y.1)), .box b6 94 [v'], .box b4 43 D0.cells] ∧ ∀ h, S.facts h → Bs h v l) (fun _ _ _ => False) ⟨.slice none 0 0, rfl, fun h hf => hf.1.1⟩ (fun W h M ly E E' pre y suf S hxs hT => ?_) (fun S D R' hT hx => ?_) (fun S D c pre hpre hX => ?_)
    · obtain ⟨v', hres, hfc⟩ := hT
      obtain ⟨ssl, sres, sfc, smn, sdf⟩ := S
      dsimp only at hres hfc ⊢
      subst hres
      obtain ⟨p, i⟩ := y
      have hlen : pre.length < 7 := by have := congrArg List.length hxs; simp [partsL_length] at this; omega
      refine J_region ?_
      refine R_alloc (Wide.round ly) Try.type38 rfl rfl rfl (fun b8 => ?_)
      refine R_store (Wide.round ly) 0 rfl rfl rfl rfl Try.type38 rfl (Nat.le_of_ble_eq_true rfl) rfl rfl rfl ?_
      refine JL_nil ?_
      refine ⟨rfl, rfl, [.box b8 38 p.cells, .own v' 4 1 pre.length (bb (pre.map fun y => Pt.b y.1)), .box b6 94 [v'], .box b4 43 D0.cells], rfl, ?_⟩
      refine J_block ?_
      refine J_region ?_
      refine R_loadb (Wide.round ly) 2 rfl rfl _ Try.underlying94 rfl rfl rfl ?_
      refine R_p (Wide.round ly) (P_fieldAddr rfl Try.underlying38 rfl Try.type4 rfl rfl) rfl rfl ?_
      refine R_loadb (Wide.round ly) 0 rfl rfl _ Try.underlying4 rfl rfl rfl ?_
      refine R_bslice (Wide.round ly) Try.underlying94 Try.type4 rfl (ivs := [(0, .bool p.b)]) rfl rfl rfl rfl (fun b24 => ?_)
      refine R_append (Wide.round ly) 2 rfl rfl rfl Try.underlying94 Try.type4 rfl rfl rfl rfl (Src.box0 0 rfl) rfl rfl (by omega) rfl rfl (fun v25 => ?_)
      refine JL_own1 2 rfl (fun h25 g25 => ?_)
      refine R_store (Wide.round ly) 3 (vs := [v25]) rfl rfl rfl h25 Try.type94 rfl (Nat.le_of_ble_eq_true rfl) (by simp [g25]) rfl rfl ?_
      refine JL_nil ?_
      exact ⟨⟨[], [.own v25 4 1 (pre.length + 1) (bb (pre.map fun y => Pt.b y.1) ++ [.bool p.b]), .box b6 94 [v25], .box b4 43 D0.cells], sfc, smn, []⟩, ⟨v25, by simp [bb], hfc⟩, Le.drop 0 (Le.drop 0 (Le.mk trivial rfl rfl fun _ h => h))⟩
    · obtain ⟨w, hres, hfc⟩ := hT
      obtain ⟨ssl, sres, sfc, smn, sdf⟩ := S
      dsimp only at hres hfc ⊢
      subst hres
      show J _ _ _ _ _ _
      refine J_pure (p := R' = []) (fun h hf => hf.2) fun hR => ?_
      subst hR
      refine J_pubown (v := w) [] [.box b6 94 [w], .box b4 43 D0.cells, .obj D shut] rfl ?_
      refine J_facts (fun h => Bs h v l ∧ Rd h w (kindsO x).length (bb (kindsO x))) (fun h hf => ⟨hfc h hf.1.1, by
        have h1 := Row.rd hf.2
        have e1 : ((partsL x D0).zipIdx.map fun y => Pt.b y.1) = kindsO x := by
          unfold kindsO
          show ((partsL x D0).zipIdx.map (Pt.b ∘ Prod.fst)) = _
          rw [← List.map_map, List.zipIdx_map_fst]
        have e2 : (partsL x D0).zipIdx.length = (kindsO x).length := by rw [kindsO_length]; simp [partsL_length]
        rw [e1, e2] at h1; exact h1⟩) ?_
      refine J_rs ?_
      refine R_p Wide.wide (P_move rfl) rfl rfl ?_
      refine R_loadb Wide.wide 0 rfl rfl _ Try.underlying94 rfl rfl rfl ?_
      refine R_fn Wide.wide Try.call42 rfl (c42 (l := l) (kv := w) (ks := kindsO x) hl (by rw [kindsO_length]; omega)) (fun h hf => hf) (fun _ => inferInstance) rfl (fun v29 => ?_)
      refine JL_or (G1 := fun _ => readP (kindsO x) l = none ∧ v29 = .tuple #[.slice none 0 0, .int .i64 20]) (G2 := fun h => ∃ ps w', readP (kindsO x) l = some ps ∧ v29 = .tuple #[w', .int .i64 0] ∧ RdP h w' ps) inferInstance inferInstance (fun h hf => hf.2) ?_ ?_
      · refine JL_fact (fun h hf => hf.2) fun e29 => ?_
        obtain ⟨hr, rfl⟩ := e29
        refine R_p Wide.wide (P_move rfl) rfl rfl ?_
        refine R_p Wide.wide (P_extract rfl rfl) rfl rfl ?_
        refine R_p Wide.wide (P_extract rfl rfl) rfl rfl ?_
        refine R_p Wide.wide (P_assign rfl) rfl rfl ?_
        refine R_p Wide.wide (P_assign rfl) rfl rfl ?_
        refine JL_nil ?_
        refine J_seq ?_
        refine J_rs ?_
        refine R_p Wide.wide (P_move rfl) rfl rfl ?_
        refine R_p Wide.wide (P_nei rfl rfl) rfl rfl ?_
        refine JL_nil ?_
        refine J_ift rfl ?_
        refine J_rs ?_
        refine R_p Wide.wide (P_build [1, 1, 3, 1, 1, 1, 1] Try.underlying43 Try.type43 rfl rfl (ivs := []) (cs := D0.cells) rfl rfl) rfl rfl ?_
        refine R_store Wide.wide 1 (vs := D0.cells) rfl rfl rfl rfl Try.type43 rfl (Nat.le_of_ble_eq_true rfl) rfl rfl rfl ?_
        refine R_p Wide.wide (P_assign rfl) rfl rfl ?_
        refine JL_nil ?_
        refine J_ret ?_
        refine FinM.cons _ (.inl rfl) [D] (res' := [.box b6 94 [w], .box b4 43 D0.cells]) (R' := []) _ rfl (List.perm_append_comm (l₁ := ([.box b6 94 [w], .box b4 43 D0.cells] : List Res)) (l₂ := [Res.obj D shut])) (List.Perm.refl _) (Reads.two rfl (RV.cell 1 (t := 43) (cs := D0.cells) _ rfl rfl Try.underlying43 rfl Try.type43 rfl) (RV.tmp rfl)) fun h hf => ⟨rfl, ?_⟩
        simp_all [readD]
      · refine JL_ex (fun (q : List Pt × Value) h => readP (kindsO x) l = some q.1 ∧ v29 = .tuple #[q.2, .int .i64 0] ∧ RdP h q.2 q.1) (fun _ => inferInstance) (fun h hf => let ⟨ps, w', e⟩ := hf.2; ⟨(ps, w'), e⟩) ?_
        rintro ⟨ps, w2⟩
        refine JL_fact (fun h hf => hf.2.1) fun hr => ?_
        refine JL_fact (fun h hf => hf.2.2.1) fun e29 => ?_
        subst e29
        obtain ⟨p0, p1, p2, p3, p4, p5, p6, rfl⟩ := seven ((readP_length hr).trans (kindsO_length x))
        have hps := readP_s hr
        refine JL_rdform (v := w2) (n := 7) (xs := [p0, p1, p2, p3, p4, p5, p6].flatMap Pt.cells) (fun h hf => hf.2.2.2) (fun _ h0 _ => by cases h0) (fun bq oq cq e2 hcq => ?_)
        subst e2
        have hms : (mkD x [p0, p1, p2, p3, p4, p5, p6]).v.s.length ≤ 1000000 := Nat.le_trans (mkD_s x hps) hl
        refine R_p Wide.wide (P_move rfl) rfl rfl ?_
        refine R_p Wide.wide (P_extract rfl rfl) rfl rfl ?_
        refine R_p Wide.wide (P_extract rfl rfl) rfl rfl ?_
        refine R_p Wide.wide (P_assign rfl) rfl rfl ?_
        refine R_p Wide.wide (P_assign rfl) rfl rfl ?_
        refine JL_nil ?_
        refine J_seq ?_
        refine J_rs ?_
        refine R_p Wide.wide (P_move rfl) rfl rfl ?_
        refine R_p Wide.wide (P_nei rfl rfl) rfl rfl ?_
        refine JL_nil ?_
        refine J_iff rfl ?_
        refine J_skip ?_
        show J _ _ _ _ _ _
        refine J_os Wide.wide 19 18 (.cells D0.cells.toArray 43 (0, 0)) rfl (by kernel_rfl) ?_
        refine O_p (P_move rfl) rfl rfl ?_
        refine O_p (P_indexAddr (i := 3) rfl rfl Try.underlying39 Try.type38 rfl (by omega)) rfl rfl ?_
        refine O_p (P_fieldAddr rfl Try.underlying38 rfl Try.type2 rfl rfl) rfl rfl ?_
        refine O_load rfl _ Try.underlying2 rfl rfl rfl (fun h hf => hf.2 16 _ rfl) ?_
        refine O_p (P_move rfl) rfl rfl ?_
        refine O_p (P_indexAddr (i := 4) rfl rfl Try.underlying39 Try.type38 rfl (by omega)) rfl rfl ?_
        refine O_p (P_fieldAddr rfl Try.underlying38 rfl Try.type2 rfl rfl) rfl rfl ?_
        refine O_load rfl _ Try.underlying2 rfl rfl rfl (fun h hf => hf.2 21 _ rfl) ?_
        refine O_p (P_eqi rfl rfl) rfl rfl ?_
        refine O_p (P_move rfl) rfl rfl ?_
        refine O_p (P_indexAddr (i := 5) rfl rfl Try.underlying39 Try.type38 rfl (by omega)) rfl rfl ?_
        refine O_p (P_fieldAddr rfl Try.underlying38 rfl Try.type2 rfl rfl) rfl rfl ?_
        refine O_load rfl _ Try.underlying2 rfl rfl rfl (fun h hf => hf.2 26 _ rfl) ?_
        refine O_p (P_move rfl) rfl rfl ?_
        refine O_p (P_indexAddr (i := 6) rfl rfl Try.underlying39 Try.type38 rfl (by omega)) rfl rfl ?_
        refine O_p (P_fieldAddr rfl Try.underlying38 rfl Try.type2 rfl rfl) rfl rfl ?_
        refine O_load rfl _ Try.underlying2 rfl rfl rfl (fun h hf => hf.2 31 _ rfl) ?_
        refine O_p (P_build [1, 1, 3, 1, 1, 1, 1] Try.underlying43 Try.type43 rfl rfl (ivs := [(3, .int .i64 p3.n), (4, .bool (decide (p4.n = 0))), (5, .int .i64 p5.n), (6, .int .i64 p6.n)]) (cs := ((⟨0, 0, V0, p3.n, decide (p4.n = 0), p5.n, p6.n⟩ : Go.Ix.D).cells)) rfl rfl) rfl rfl ?_
        refine O_alloc (cs := D0.cells) rfl Try.type43 rfl rfl rfl rfl (fun b11 => ?_)
        refine O_nil rfl ?_
        refine R_store Wide.wide 0 (vs := ((⟨0, 0, V0, p3.n, decide (p4.n = 0), p5.n, p6.n⟩ : Go.Ix.D).cells)) (cs' := ((⟨0, 0, V0, p3.n, decide (p4.n = 0), p5.n, p6.n⟩ : Go.Ix.D).cells)) rfl rfl rfl rfl Try.type43 rfl (Nat.le_of_ble_eq_true rfl) rfl rfl rfl ?_
        refine JL_nil ?_
        refine J_seq ?_
        refine J_rs ?_
        refine R_p Wide.wide (P_move rfl) rfl rfl ?_
        refine JL_nil ?_
        refine J_block ?_
        refine J_rs ?_
        refine R_p Wide.wide (P_eqi rfl rfl) rfl rfl ?_
        refine R_p Wide.wide (P_assign rfl) rfl rfl ?_
        refine JL_nil ?_
        refine J_ifs rfl (fun hb69 => ?_) (fun hb69 => ?_)
        · refine J_tr Wide.wide 18 [(13, 0, 1), (15, 1, 1), (17, 2, 3)] b11 [(0, .int .i64 p0.n), (1, .int .i64 p1.n), (2, .int .i64 p2.v.k), (3, .int .i64 p2.v.n), (4, .string (bs p2.v.s))] rfl (by kernel_rfl) ?_
          refine T_p (i := 0) (P_move rfl) rfl rfl rfl ?_
          refine T_p (i := 0) (P_indexAddr (i := 0) rfl rfl Try.underlying39 Try.type38 rfl (by omega)) rfl rfl rfl ?_
          refine T_p (i := 0) (P_fieldAddr rfl Try.underlying38 rfl Try.type2 rfl rfl) rfl rfl rfl ?_
          refine T_load (i := 0) rfl _ Try.underlying2 rfl rfl rfl rfl (fun h hf => hf.2 1 _ rfl) ?_
          refine T_p (i := 0) (P_move rfl) rfl rfl rfl ?_
          refine T_p (i := 0) (P_indexAddr (i := 1) rfl rfl Try.underlying39 Try.type38 rfl (by omega)) rfl rfl rfl ?_
          refine T_p (i := 0) (P_fieldAddr rfl Try.underlying38 rfl Try.type2 rfl rfl) rfl rfl rfl ?_
          refine T_load (i := 0) rfl _ Try.underlying2 rfl rfl rfl rfl (fun h hf => hf.2 6 _ rfl) ?_
          refine T_p (i := 0) (P_move rfl) rfl rfl rfl ?_
          refine T_p (i := 0) (P_indexAddr (i := 2) rfl rfl Try.underlying39 Try.type38 rfl (by omega)) rfl rfl rfl ?_
          refine T_p (i := 0) (P_fieldAddr rfl Try.underlying38 rfl Try.type36 rfl rfl) rfl rfl rfl ?_
          refine T_loads (i := 0) (vs := p2.v.cells) rfl _ Try.underlying36 rfl Try.type36 rfl rfl rfl rfl (fun h hf => RdC.mid hf.2 12 (vs := p2.v.cells) rfl) ?_
          refine T_p (i := 0) (P_fieldAddr rfl Try.underlying43 rfl Try.type2 rfl rfl) rfl rfl rfl ?_
          refine T_store (i := 0) rfl rfl rfl rfl Try.type2 rfl (Nat.le_of_ble_eq_true rfl) rfl rfl rfl ?_
          refine T_p (i := 0) (P_fieldAddr rfl Try.underlying43 rfl Try.type2 rfl rfl) rfl rfl rfl ?_
          refine T_store (i := 0) rfl rfl rfl rfl Try.type2 rfl (Nat.le_of_ble_eq_true rfl) rfl rfl rfl ?_
          refine T_p (i := 0) (P_fieldAddr rfl Try.underlying43 rfl Try.type36 rfl rfl) rfl rfl rfl ?_
          refine T_store (i := 0) rfl rfl rfl rfl Try.type36 rfl (Nat.le_of_ble_eq_true rfl) rfl rfl rfl ?_
          refine T_nil (cs' := (mkD x [p0, p1, p2, p3, p4, p5, p6]).cells) 0 rfl (by obtain rfl := of_decide_eq_true hb69; rfl) rfl rfl ?_
          refine JL_nil ?_
          refine J_seq ?_
          refine J_ds Wide.wide 18 [(1, fun _ u _ => u = .bool (mayD (mkD x [p0, p1, p2, p3, p4, p5, p6]))), (6, fun _ u _ => u = .bool (hasO x (mkD x [p0, p1, p2, p3, p4, p5, p6]))), (15, fun _ u _ => u = .int .i64 (addN (mkD x [p0, p1, p2, p3, p4, p5, p6])))] rfl (by kernel_rfl) ?_
          refine G_loadbs 0 (vs := (mkD x [p0, p1, p2, p3, p4, p5, p6]).cells) rfl rfl _ Try.underlying43 rfl Try.type43 rfl rfl rfl rfl ?_
          refine G_fv Try.call19 rfl (c19 hms) (fun h hf hg => trivial) rfl rfl ?_
          refine G_p (P_not rfl) rfl rfl ?_
          refine G_p (P_move rfl) rfl rfl ?_
          refine G_gd rfl rfl rfl (fun hb123 => ?_) (fun hb123 => ?_)
          · refine G_p (P_move rfl) rfl rfl ?_
            refine G_gy rfl rfl ?_
            refine G_loadbs 0 (vs := (mkD x [p0, p1, p2, p3, p4, p5, p6]).cells) rfl rfl _ Try.underlying43 rfl Try.type43 rfl rfl rfl rfl ?_
            refine G_gy rfl rfl ?_
            refine G_fv Try.call21 rfl c21 (fun h hf hg => trivial) rfl rfl ?_
            refine G_gy rfl rfl ?_
            refine G_p (P_not rfl) rfl rfl ?_
            refine G_p (P_pickf rfl rfl) rfl rfl ?_
            refine G_p (P_move rfl) rfl rfl ?_
            refine G_gd rfl rfl rfl (fun hb129 => ?_) (fun hb129 => ?_)
            · refine G_p (P_move rfl) rfl rfl ?_
              refine G_gy rfl rfl ?_
              refine G_p (P_indexAddr (i := 4) rfl rfl Try.underlying39 Try.type38 rfl (by omega)) rfl rfl ?_
              refine G_gy rfl rfl ?_
              refine G_p (P_fieldAddr rfl Try.underlying38 rfl Try.type2 rfl rfl) rfl rfl ?_
              refine G_gy rfl rfl ?_
              refine G_load rfl _ Try.underlying2 rfl rfl rfl (fun h hf hg => hf.2 21 _ rfl) ?_
              refine G_gy rfl rfl ?_
              refine G_loadbs 0 (vs := (mkD x [p0, p1, p2, p3, p4, p5, p6]).cells) rfl rfl _ Try.underlying43 rfl Try.type43 rfl rfl rfl rfl ?_
              refine G_gy rfl rfl ?_
              refine G_fv Try.call43 rfl c43 (fun h hf hg => trivial) rfl rfl ?_
              refine G_gy rfl rfl ?_
              refine G_p (P_nei rfl rfl) rfl rfl ?_
              refine G_p (P_pickf rfl rfl) rfl rfl ?_
              refine G_nil0 ?_
              refine JL_nil ?_
              refine J_ifs rfl (fun hb137 => ?_) (fun hb137 => ?_)
              · refine J_rs ?_
                refine R_p Wide.wide (P_build [1, 1, 3, 1, 1, 1, 1] Try.underlying43 Try.type43 rfl rfl (ivs := []) (cs := D0.cells) rfl rfl) rfl rfl ?_
                refine R_store Wide.wide 2 (vs := D0.cells) rfl rfl rfl rfl Try.type43 rfl (Nat.le_of_ble_eq_true rfl) rfl rfl rfl ?_
                refine R_p Wide.wide (P_assign rfl) rfl rfl ?_
                refine JL_nil ?_
                refine J_ret ?_
                refine FinM.cons _ (.inl rfl) [D] (res' := [.box b11 43 (mkD x [p0, p1, p2, p3, p4, p5, p6]).cells, .box b6 94 [w], .box b4 43 D0.cells]) (R' := []) _ rfl (List.perm_append_comm (l₁ := ([.box b11 43 (mkD x [p0, p1, p2, p3, p4, p5, p6]).cells, .box b6 94 [w], .box b4 43 D0.cells] : List Res)) (l₂ := [Res.obj D shut])) (List.Perm.refl _) (Reads.two rfl (RV.cell 2 (t := 43) (cs := D0.cells) _ rfl rfl Try.underlying43 rfl Try.type43 rfl) (RV.tmp rfl)) fun h hf => ⟨rfl, ?_⟩
                have hno : okD x [p0, p1, p2, p3, p4, p5, p6] = false := by simp [okD]; have h4 : gN [p0, p1, p2, p3, p4, p5, p6] 4 = p4.n := rfl; simp_all
                simp_all [readD]
              · refine J_skip ?_
                show J _ _ _ _ _ _
                refine J_rs ?_
                refine R_loadbs Wide.wide 0 (vs := (mkD x [p0, p1, p2, p3, p4, p5, p6]).cells) rfl rfl _ Try.underlying43 rfl Try.type43 rfl rfl rfl ?_
                refine R_store Wide.wide 2 (vs := (mkD x [p0, p1, p2, p3, p4, p5, p6]).cells) (cs' := (mkD x [p0, p1, p2, p3, p4, p5, p6]).cells) rfl rfl rfl rfl Try.type43 rfl (Nat.le_of_ble_eq_true rfl) rfl rfl rfl ?_
                refine R_p Wide.wide (P_assign rfl) rfl rfl ?_
                refine JL_nil ?_
                refine J_ret ?_
                refine FinM.cons _ (.inl rfl) [D] (res' := [.box b11 43 (mkD x [p0, p1, p2, p3, p4, p5, p6]).cells, .box b6 94 [w], .box b4 43 (mkD x [p0, p1, p2, p3, p4, p5, p6]).cells]) (R' := []) _ rfl (List.perm_append_comm (l₁ := ([.box b11 43 (mkD x [p0, p1, p2, p3, p4, p5, p6]).cells, .box b6 94 [w], .box b4 43 (mkD x [p0, p1, p2, p3, p4, p5, p6]).cells] : List Res)) (l₂ := [Res.obj D shut])) (List.Perm.refl _) (Reads.two rfl (RV.cell 2 (t := 43) (cs := (mkD x [p0, p1, p2, p3, p4, p5, p6]).cells) _ rfl rfl Try.underlying43 rfl Try.type43 rfl) (RV.tmp rfl)) fun h hf => ⟨rfl, ?_⟩
                have hno : okD x [p0, p1, p2, p3, p4, p5, p6] = true := by simp [okD]; have h4 : gN [p0, p1, p2, p3, p4, p5, p6] 4 = p4.n := rfl; simp_all
                simp_all [readD]
            · refine G_gn rfl rfl rfl rfl ?_
              refine G_gn rfl rfl rfl rfl ?_
              refine G_gn rfl rfl rfl rfl ?_
              refine G_gn rfl rfl rfl rfl ?_
              refine G_gn rfl rfl rfl rfl ?_
              refine G_gn rfl rfl rfl rfl ?_
              refine G_p (P_pickt rfl rfl) rfl rfl ?_
              refine G_nil0 ?_
              refine JL_nil ?_
              refine J_ift rfl ?_
              refine J_rs ?_
              refine R_p Wide.wide (P_build [1, 1, 3, 1, 1, 1, 1] Try.underlying43 Try.type43 rfl rfl (ivs := []) (cs := D0.cells) rfl rfl) rfl rfl ?_
              refine R_store Wide.wide 2 (vs := D0.cells) rfl rfl rfl rfl Try.type43 rfl (Nat.le_of_ble_eq_true rfl) rfl rfl rfl ?_
              refine R_p Wide.wide (P_assign rfl) rfl rfl ?_
              refine JL_nil ?_
              refine J_ret ?_
              refine FinM.cons _ (.inl rfl) [D] (res' := [.box b11 43 (mkD x [p0, p1, p2, p3, p4, p5, p6]).cells, .box b6 94 [w], .box b4 43 D0.cells]) (R' := []) _ rfl (List.perm_append_comm (l₁ := ([.box b11 43 (mkD x [p0, p1, p2, p3, p4, p5, p6]).cells, .box b6 94 [w], .box b4 43 D0.cells] : List Res)) (l₂ := [Res.obj D shut])) (List.Perm.refl _) (Reads.two rfl (RV.cell 2 (t := 43) (cs := D0.cells) _ rfl rfl Try.underlying43 rfl Try.type43 rfl) (RV.tmp rfl)) fun h hf => ⟨rfl, ?_⟩
              have hno : okD x [p0, p1, p2, p3, p4, p5, p6] = false := by simp [okD]; have h4 : gN [p0, p1, p2, p3, p4, p5, p6] 4 = p4.n := rfl; simp_all
              simp_all [readD]
          · refine G_gn rfl rfl rfl rfl ?_
            refine G_gn rfl rfl rfl rfl ?_
            refine G_gn rfl rfl rfl rfl ?_
            refine G_p (P_pickt rfl rfl) rfl rfl ?_
            refine G_p (P_move rfl) rfl rfl ?_
            refine G_gn rfl rfl rfl rfl ?_
            refine G_gn rfl rfl rfl rfl ?_
            refine G_gn rfl rfl rfl rfl ?_
            refine G_gn rfl rfl rfl rfl ?_
            refine G_gn rfl rfl rfl rfl ?_
            refine G_gn rfl rfl rfl rfl ?_
            refine G_gn rfl rfl rfl rfl ?_
            refine G_p (P_pickt rfl rfl) rfl rfl ?_
            refine G_nil0 ?_
            refine JL_nil ?_
            refine J_ift rfl ?_
            refine J_rs ?_
            refine R_p Wide.wide (P_build [1, 1, 3, 1, 1, 1, 1] Try.underlying43 Try.type43 rfl rfl (ivs := []) (cs := D0.cells) rfl rfl) rfl rfl ?_
            refine R_store Wide.wide 2 (vs := D0.cells) rfl rfl rfl rfl Try.type43 rfl (Nat.le_of_ble_eq_true rfl) rfl rfl rfl ?_
            refine R_p Wide.wide (P_assign rfl) rfl rfl ?_
            refine JL_nil ?_
            refine J_ret ?_
            refine FinM.cons _ (.inl rfl) [D] (res' := [.box b11 43 (mkD x [p0, p1, p2, p3, p4, p5, p6]).cells, .box b6 94 [w], .box b4 43 D0.cells]) (R' := []) _ rfl (List.perm_append_comm (l₁ := ([.box b11 43 (mkD x [p0, p1, p2, p3, p4, p5, p6]).cells, .box b6 94 [w], .box b4 43 D0.cells] : List Res)) (l₂ := [Res.obj D shut])) (List.Perm.refl _) (Reads.two rfl (RV.cell 2 (t := 43) (cs := D0.cells) _ rfl rfl Try.underlying43 rfl Try.type43 rfl) (RV.tmp rfl)) fun h hf => ⟨rfl, ?_⟩
            have hno : okD x [p0, p1, p2, p3, p4, p5, p6] = false := by simp [okD]; have h4 : gN [p0, p1, p2, p3, p4, p5, p6] 4 = p4.n := rfl; simp_all
            simp_all [readD]
        · refine J_rs ?_
          refine R_p Wide.wide (P_eqi rfl rfl) rfl rfl ?_
          refine R_p Wide.wide (P_assign rfl) rfl rfl ?_
          refine JL_nil ?_
          refine J_ifs rfl (fun hb86 => ?_) (fun hb86 => ?_)
          · refine J_tr Wide.wide 18 [(13, 1, 1), (15, 0, 1), (17, 2, 3)] b11 [(1, .int .i64 p0.n), (0, .int .i64 p1.n), (2, .int .i64 p2.v.k), (3, .int .i64 p2.v.n), (4, .string (bs p2.v.s))] rfl (by kernel_rfl) ?_
            refine T_p (i := 0) (P_move rfl) rfl rfl rfl ?_
            refine T_p (i := 0) (P_indexAddr (i := 0) rfl rfl Try.underlying39 Try.type38 rfl (by omega)) rfl rfl rfl ?_
            refine T_p (i := 0) (P_fieldAddr rfl Try.underlying38 rfl Try.type2 rfl rfl) rfl rfl rfl ?_
            refine T_load (i := 0) rfl _ Try.underlying2 rfl rfl rfl rfl (fun h hf => hf.2 1 _ rfl) ?_
            refine T_p (i := 0) (P_move rfl) rfl rfl rfl ?_
            refine T_p (i := 0) (P_indexAddr (i := 1) rfl rfl Try.underlying39 Try.type38 rfl (by omega)) rfl rfl rfl ?_
            refine T_p (i := 0) (P_fieldAddr rfl Try.underlying38 rfl Try.type2 rfl rfl) rfl rfl rfl ?_
            refine T_load (i := 0) rfl _ Try.underlying2 rfl rfl rfl rfl (fun h hf => hf.2 6 _ rfl) ?_
            refine T_p (i := 0) (P_move rfl) rfl rfl rfl ?_
            refine T_p (i := 0) (P_indexAddr (i := 2) rfl rfl Try.underlying39 Try.type38 rfl (by omega)) rfl rfl rfl ?_
            refine T_p (i := 0) (P_fieldAddr rfl Try.underlying38 rfl Try.type36 rfl rfl) rfl rfl rfl ?_
            refine T_loads (i := 0) (vs := p2.v.cells) rfl _ Try.underlying36 rfl Try.type36 rfl rfl rfl rfl (fun h hf => RdC.mid hf.2 12 (vs := p2.v.cells) rfl) ?_
            refine T_p (i := 0) (P_fieldAddr rfl Try.underlying43 rfl Try.type2 rfl rfl) rfl rfl rfl ?_
            refine T_store (i := 0) rfl rfl rfl rfl Try.type2 rfl (Nat.le_of_ble_eq_true rfl) rfl rfl rfl ?_
            refine T_p (i := 0) (P_fieldAddr rfl Try.underlying43 rfl Try.type2 rfl rfl) rfl rfl rfl ?_
            refine T_store (i := 0) rfl rfl rfl rfl Try.type2 rfl (Nat.le_of_ble_eq_true rfl) rfl rfl rfl ?_
            refine T_p (i := 0) (P_fieldAddr rfl Try.underlying43 rfl Try.type36 rfl rfl) rfl rfl rfl ?_
            refine T_store (i := 0) rfl rfl rfl rfl Try.type36 rfl (Nat.le_of_ble_eq_true rfl) rfl rfl rfl ?_
            refine T_nil (cs' := (mkD x [p0, p1, p2, p3, p4, p5, p6]).cells) 0 rfl (by obtain rfl := of_decide_eq_true hb86; rfl) rfl rfl ?_
            refine JL_nil ?_
            refine J_seq ?_
            refine J_ds Wide.wide 18 [(1, fun _ u _ => u = .bool (mayD (mkD x [p0, p1, p2, p3, p4, p5, p6]))), (6, fun _ u _ => u = .bool (hasO x (mkD x [p0, p1, p2, p3, p4, p5, p6]))), (15, fun _ u _ => u = .int .i64 (addN (mkD x [p0, p1, p2, p3, p4, p5, p6])))] rfl (by kernel_rfl) ?_
            refine G_loadbs 0 (vs := (mkD x [p0, p1, p2, p3, p4, p5, p6]).cells) rfl rfl _ Try.underlying43 rfl Try.type43 rfl rfl rfl rfl ?_
            refine G_fv Try.call19 rfl (c19 hms) (fun h hf hg => trivial) rfl rfl ?_
            refine G_p (P_not rfl) rfl rfl ?_
            refine G_p (P_move rfl) rfl rfl ?_
            refine G_gd rfl rfl rfl (fun hb123 => ?_) (fun hb123 => ?_)
            · refine G_p (P_move rfl) rfl rfl ?_
              refine G_gy rfl rfl ?_
              refine G_loadbs 0 (vs := (mkD x [p0, p1, p2, p3, p4, p5, p6]).cells) rfl rfl _ Try.underlying43 rfl Try.type43 rfl rfl rfl rfl ?_
              refine G_gy rfl rfl ?_
              refine G_fv Try.call21 rfl c21 (fun h hf hg => trivial) rfl rfl ?_
              refine G_gy rfl rfl ?_
              refine G_p (P_not rfl) rfl rfl ?_
              refine G_p (P_pickf rfl rfl) rfl rfl ?_
              refine G_p (P_move rfl) rfl rfl ?_
              refine G_gd rfl rfl rfl (fun hb129 => ?_) (fun hb129 => ?_)
              · refine G_p (P_move rfl) rfl rfl ?_
                refine G_gy rfl rfl ?_
                refine G_p (P_indexAddr (i := 4) rfl rfl Try.underlying39 Try.type38 rfl (by omega)) rfl rfl ?_
                refine G_gy rfl rfl ?_
                refine G_p (P_fieldAddr rfl Try.underlying38 rfl Try.type2 rfl rfl) rfl rfl ?_
                refine G_gy rfl rfl ?_
                refine G_load rfl _ Try.underlying2 rfl rfl rfl (fun h hf hg => hf.2 21 _ rfl) ?_
                refine G_gy rfl rfl ?_
                refine G_loadbs 0 (vs := (mkD x [p0, p1, p2, p3, p4, p5, p6]).cells) rfl rfl _ Try.underlying43 rfl Try.type43 rfl rfl rfl rfl ?_
                refine G_gy rfl rfl ?_
                refine G_fv Try.call43 rfl c43 (fun h hf hg => trivial) rfl rfl ?_
                refine G_gy rfl rfl ?_
                refine G_p (P_nei rfl rfl) rfl rfl ?_
                refine G_p (P_pickf rfl rfl) rfl rfl ?_
                refine G_nil0 ?_
                refine JL_nil ?_
                refine J_ifs rfl (fun hb137 => ?_) (fun hb137 => ?_)
                · refine J_rs ?_
                  refine R_p Wide.wide (P_build [1, 1, 3, 1, 1, 1, 1] Try.underlying43 Try.type43 rfl rfl (ivs := []) (cs := D0.cells) rfl rfl) rfl rfl ?_
                  refine R_store Wide.wide 2 (vs := D0.cells) rfl rfl rfl rfl Try.type43 rfl (Nat.le_of_ble_eq_true rfl) rfl rfl rfl ?_
                  refine R_p Wide.wide (P_assign rfl) rfl rfl ?_
                  refine JL_nil ?_
                  refine J_ret ?_
                  refine FinM.cons _ (.inl rfl) [D] (res' := [.box b11 43 (mkD x [p0, p1, p2, p3, p4, p5, p6]).cells, .box b6 94 [w], .box b4 43 D0.cells]) (R' := []) _ rfl (List.perm_append_comm (l₁ := ([.box b11 43 (mkD x [p0, p1, p2, p3, p4, p5, p6]).cells, .box b6 94 [w], .box b4 43 D0.cells] : List Res)) (l₂ := [Res.obj D shut])) (List.Perm.refl _) (Reads.two rfl (RV.cell 2 (t := 43) (cs := D0.cells) _ rfl rfl Try.underlying43 rfl Try.type43 rfl) (RV.tmp rfl)) fun h hf => ⟨rfl, ?_⟩
                  have hno : okD x [p0, p1, p2, p3, p4, p5, p6] = false := by simp [okD]; have h4 : gN [p0, p1, p2, p3, p4, p5, p6] 4 = p4.n := rfl; simp_all
                  simp_all [readD]
                · refine J_skip ?_
                  show J _ _ _ _ _ _
                  refine J_rs ?_
                  refine R_loadbs Wide.wide 0 (vs := (mkD x [p0, p1, p2, p3, p4, p5, p6]).cells) rfl rfl _ Try.underlying43 rfl Try.type43 rfl rfl rfl ?_
                  refine R_store Wide.wide 2 (vs := (mkD x [p0, p1, p2, p3, p4, p5, p6]).cells) (cs' := (mkD x [p0, p1, p2, p3, p4, p5, p6]).cells) rfl rfl rfl rfl Try.type43 rfl (Nat.le_of_ble_eq_true rfl) rfl rfl rfl ?_
                  refine R_p Wide.wide (P_assign rfl) rfl rfl ?_
                  refine JL_nil ?_
                  refine J_ret ?_
                  refine FinM.cons _ (.inl rfl) [D] (res' := [.box b11 43 (mkD x [p0, p1, p2, p3, p4, p5, p6]).cells, .box b6 94 [w], .box b4 43 (mkD x [p0, p1, p2, p3, p4, p5, p6]).cells]) (R' := []) _ rfl (List.perm_append_comm (l₁ := ([.box b11 43 (mkD x [p0, p1, p2, p3, p4, p5, p6]).cells, .box b6 94 [w], .box b4 43 (mkD x [p0, p1, p2, p3, p4, p5, p6]).cells] : List Res)) (l₂ := [Res.obj D shut])) (List.Perm.refl _) (Reads.two rfl (RV.cell 2 (t := 43) (cs := (mkD x [p0, p1, p2, p3, p4, p5, p6]).cells) _ rfl rfl Try.underlying43 rfl Try.type43 rfl) (RV.tmp rfl)) fun h hf => ⟨rfl, ?_⟩
                  have hno : okD x [p0, p1, p2, p3, p4, p5, p6] = true := by simp [okD]; have h4 : gN [p0, p1, p2, p3, p4, p5, p6] 4 = p4.n := rfl; simp_all
                  simp_all [readD]
              · refine G_gn rfl rfl rfl rfl ?_
                refine G_gn rfl rfl rfl rfl ?_
                refine G_gn rfl rfl rfl rfl ?_
                refine G_gn rfl rfl rfl rfl ?_
                refine G_gn rfl rfl rfl rfl ?_
                refine G_gn rfl rfl rfl rfl ?_
                refine G_p (P_pickt rfl rfl) rfl rfl ?_
                refine G_nil0 ?_
                refine JL_nil ?_
                refine J_ift rfl ?_
                refine J_rs ?_
                refine R_p Wide.wide (P_build [1, 1, 3, 1, 1, 1, 1] Try.underlying43 Try.type43 rfl rfl (ivs := []) (cs := D0.cells) rfl rfl) rfl rfl ?_
                refine R_store Wide.wide 2 (vs := D0.cells) rfl rfl rfl rfl Try.type43 rfl (Nat.le_of_ble_eq_true rfl) rfl rfl rfl ?_
                refine R_p Wide.wide (P_assign rfl) rfl rfl ?_
                refine JL_nil ?_
                refine J_ret ?_
                refine FinM.cons _ (.inl rfl) [D] (res' := [.box b11 43 (mkD x [p0, p1, p2, p3, p4, p5, p6]).cells, .box b6 94 [w], .box b4 43 D0.cells]) (R' := []) _ rfl (List.perm_append_comm (l₁ := ([.box b11 43 (mkD x [p0, p1, p2, p3, p4, p5, p6]).cells, .box b6 94 [w], .box b4 43 D0.cells] : List Res)) (l₂ := [Res.obj D shut])) (List.Perm.refl _) (Reads.two rfl (RV.cell 2 (t := 43) (cs := D0.cells) _ rfl rfl Try.underlying43 rfl Try.type43 rfl) (RV.tmp rfl)) fun h hf => ⟨rfl, ?_⟩
                have hno : okD x [p0, p1, p2, p3, p4, p5, p6] = false := by simp [okD]; have h4 : gN [p0, p1, p2, p3, p4, p5, p6] 4 = p4.n := rfl; simp_all
                simp_all [readD]
            · refine G_gn rfl rfl rfl rfl ?_
              refine G_gn rfl rfl rfl rfl ?_
              refine G_gn rfl rfl rfl rfl ?_
              refine G_p (P_pickt rfl rfl) rfl rfl ?_
              refine G_p (P_move rfl) rfl rfl ?_
              refine G_gn rfl rfl rfl rfl ?_
              refine G_gn rfl rfl rfl rfl ?_
              refine G_gn rfl rfl rfl rfl ?_
              refine G_gn rfl rfl rfl rfl ?_
              refine G_gn rfl rfl rfl rfl ?_
              refine G_gn rfl rfl rfl rfl ?_
              refine G_gn rfl rfl rfl rfl ?_
              refine G_p (P_pickt rfl rfl) rfl rfl ?_
              refine G_nil0 ?_
              refine JL_nil ?_
              refine J_ift rfl ?_
              refine J_rs ?_
              refine R_p Wide.wide (P_build [1, 1, 3, 1, 1, 1, 1] Try.underlying43 Try.type43 rfl rfl (ivs := []) (cs := D0.cells) rfl rfl) rfl rfl ?_
              refine R_store Wide.wide 2 (vs := D0.cells) rfl rfl rfl rfl Try.type43 rfl (Nat.le_of_ble_eq_true rfl) rfl rfl rfl ?_
              refine R_p Wide.wide (P_assign rfl) rfl rfl ?_
              refine JL_nil ?_
              refine J_ret ?_
              refine FinM.cons _ (.inl rfl) [D] (res' := [.box b11 43 (mkD x [p0, p1, p2, p3, p4, p5, p6]).cells, .box b6 94 [w], .box b4 43 D0.cells]) (R' := []) _ rfl (List.perm_append_comm (l₁ := ([.box b11 43 (mkD x [p0, p1, p2, p3, p4, p5, p6]).cells, .box b6 94 [w], .box b4 43 D0.cells] : List Res)) (l₂ := [Res.obj D shut])) (List.Perm.refl _) (Reads.two rfl (RV.cell 2 (t := 43) (cs := D0.cells) _ rfl rfl Try.underlying43 rfl Try.type43 rfl) (RV.tmp rfl)) fun h hf => ⟨rfl, ?_⟩
              have hno : okD x [p0, p1, p2, p3, p4, p5, p6] = false := by simp [okD]; have h4 : gN [p0, p1, p2, p3, p4, p5, p6] 4 = p4.n := rfl; simp_all
              simp_all [readD]
          · refine J_rs ?_
            refine R_p Wide.wide (P_eqi rfl rfl) rfl rfl ?_
            refine R_p Wide.wide (P_assign rfl) rfl rfl ?_
            refine JL_nil ?_
            refine J_ifs rfl (fun hb103 => ?_) (fun hb103 => ?_)
            · refine J_tr Wide.wide 18 [(13, 1, 1), (15, 2, 3), (17, 0, 1)] b11 [(1, .int .i64 p0.n), (2, .int .i64 p1.v.k), (3, .int .i64 p1.v.n), (4, .string (bs p1.v.s)), (0, .int .i64 p2.n)] rfl (by kernel_rfl) ?_
              refine T_p (i := 0) (P_move rfl) rfl rfl rfl ?_
              refine T_p (i := 0) (P_indexAddr (i := 0) rfl rfl Try.underlying39 Try.type38 rfl (by omega)) rfl rfl rfl ?_
              refine T_p (i := 0) (P_fieldAddr rfl Try.underlying38 rfl Try.type2 rfl rfl) rfl rfl rfl ?_
              refine T_load (i := 0) rfl _ Try.underlying2 rfl rfl rfl rfl (fun h hf => hf.2 1 _ rfl) ?_
              refine T_p (i := 0) (P_move rfl) rfl rfl rfl ?_
              refine T_p (i := 0) (P_indexAddr (i := 1) rfl rfl Try.underlying39 Try.type38 rfl (by omega)) rfl rfl rfl ?_
              refine T_p (i := 0) (P_fieldAddr rfl Try.underlying38 rfl Try.type36 rfl rfl) rfl rfl rfl ?_
              refine T_loads (i := 0) (vs := p1.v.cells) rfl _ Try.underlying36 rfl Try.type36 rfl rfl rfl rfl (fun h hf => RdC.mid hf.2 7 (vs := p1.v.cells) rfl) ?_
              refine T_p (i := 0) (P_move rfl) rfl rfl rfl ?_
              refine T_p (i := 0) (P_indexAddr (i := 2) rfl rfl Try.underlying39 Try.type38 rfl (by omega)) rfl rfl rfl ?_
              refine T_p (i := 0) (P_fieldAddr rfl Try.underlying38 rfl Try.type2 rfl rfl) rfl rfl rfl ?_
              refine T_load (i := 0) rfl _ Try.underlying2 rfl rfl rfl rfl (fun h hf => hf.2 11 _ rfl) ?_
              refine T_p (i := 0) (P_fieldAddr rfl Try.underlying43 rfl Try.type2 rfl rfl) rfl rfl rfl ?_
              refine T_store (i := 0) rfl rfl rfl rfl Try.type2 rfl (Nat.le_of_ble_eq_true rfl) rfl rfl rfl ?_
              refine T_p (i := 0) (P_fieldAddr rfl Try.underlying43 rfl Try.type36 rfl rfl) rfl rfl rfl ?_
              refine T_store (i := 0) rfl rfl rfl rfl Try.type36 rfl (Nat.le_of_ble_eq_true rfl) rfl rfl rfl ?_
              refine T_p (i := 0) (P_fieldAddr rfl Try.underlying43 rfl Try.type2 rfl rfl) rfl rfl rfl ?_
              refine T_store (i := 0) rfl rfl rfl rfl Try.type2 rfl (Nat.le_of_ble_eq_true rfl) rfl rfl rfl ?_
              refine T_nil (cs' := (mkD x [p0, p1, p2, p3, p4, p5, p6]).cells) 0 rfl (by obtain rfl := of_decide_eq_true hb103; rfl) rfl rfl ?_
              refine JL_nil ?_
              refine J_seq ?_
              refine J_ds Wide.wide 18 [(1, fun _ u _ => u = .bool (mayD (mkD x [p0, p1, p2, p3, p4, p5, p6]))), (6, fun _ u _ => u = .bool (hasO x (mkD x [p0, p1, p2, p3, p4, p5, p6]))), (15, fun _ u _ => u = .int .i64 (addN (mkD x [p0, p1, p2, p3, p4, p5, p6])))] rfl (by kernel_rfl) ?_
              refine G_loadbs 0 (vs := (mkD x [p0, p1, p2, p3, p4, p5, p6]).cells) rfl rfl _ Try.underlying43 rfl Try.type43 rfl rfl rfl rfl ?_
              refine G_fv Try.call19 rfl (c19 hms) (fun h hf hg => trivial) rfl rfl ?_
              refine G_p (P_not rfl) rfl rfl ?_
              refine G_p (P_move rfl) rfl rfl ?_
              refine G_gd rfl rfl rfl (fun hb123 => ?_) (fun hb123 => ?_)
              · refine G_p (P_move rfl) rfl rfl ?_
                refine G_gy rfl rfl ?_
                refine G_loadbs 0 (vs := (mkD x [p0, p1, p2, p3, p4, p5, p6]).cells) rfl rfl _ Try.underlying43 rfl Try.type43 rfl rfl rfl rfl ?_
                refine G_gy rfl rfl ?_
                refine G_fv Try.call21 rfl c21 (fun h hf hg => trivial) rfl rfl ?_
                refine G_gy rfl rfl ?_
                refine G_p (P_not rfl) rfl rfl ?_
                refine G_p (P_pickf rfl rfl) rfl rfl ?_
                refine G_p (P_move rfl) rfl rfl ?_
                refine G_gd rfl rfl rfl (fun hb129 => ?_) (fun hb129 => ?_)
                · refine G_p (P_move rfl) rfl rfl ?_
                  refine G_gy rfl rfl ?_
                  refine G_p (P_indexAddr (i := 4) rfl rfl Try.underlying39 Try.type38 rfl (by omega)) rfl rfl ?_
                  refine G_gy rfl rfl ?_
                  refine G_p (P_fieldAddr rfl Try.underlying38 rfl Try.type2 rfl rfl) rfl rfl ?_
                  refine G_gy rfl rfl ?_
                  refine G_load rfl _ Try.underlying2 rfl rfl rfl (fun h hf hg => hf.2 21 _ rfl) ?_
                  refine G_gy rfl rfl ?_
                  refine G_loadbs 0 (vs := (mkD x [p0, p1, p2, p3, p4, p5, p6]).cells) rfl rfl _ Try.underlying43 rfl Try.type43 rfl rfl rfl rfl ?_
                  refine G_gy rfl rfl ?_
                  refine G_fv Try.call43 rfl c43 (fun h hf hg => trivial) rfl rfl ?_
                  refine G_gy rfl rfl ?_
                  refine G_p (P_nei rfl rfl) rfl rfl ?_
                  refine G_p (P_pickf rfl rfl) rfl rfl ?_
                  refine G_nil0 ?_
                  refine JL_nil ?_
                  refine J_ifs rfl (fun hb137 => ?_) (fun hb137 => ?_)
                  · refine J_rs ?_
                    refine R_p Wide.wide (P_build [1, 1, 3, 1, 1, 1, 1] Try.underlying43 Try.type43 rfl rfl (ivs := []) (cs := D0.cells) rfl rfl) rfl rfl ?_
                    refine R_store Wide.wide 2 (vs := D0.cells) rfl rfl rfl rfl Try.type43 rfl (Nat.le_of_ble_eq_true rfl) rfl rfl rfl ?_
                    refine R_p Wide.wide (P_assign rfl) rfl rfl ?_
                    refine JL_nil ?_
                    refine J_ret ?_
                    refine FinM.cons _ (.inl rfl) [D] (res' := [.box b11 43 (mkD x [p0, p1, p2, p3, p4, p5, p6]).cells, .box b6 94 [w], .box b4 43 D0.cells]) (R' := []) _ rfl (List.perm_append_comm (l₁ := ([.box b11 43 (mkD x [p0, p1, p2, p3, p4, p5, p6]).cells, .box b6 94 [w], .box b4 43 D0.cells] : List Res)) (l₂ := [Res.obj D shut])) (List.Perm.refl _) (Reads.two rfl (RV.cell 2 (t := 43) (cs := D0.cells) _ rfl rfl Try.underlying43 rfl Try.type43 rfl) (RV.tmp rfl)) fun h hf => ⟨rfl, ?_⟩
                    have hno : okD x [p0, p1, p2, p3, p4, p5, p6] = false := by simp [okD]; have h4 : gN [p0, p1, p2, p3, p4, p5, p6] 4 = p4.n := rfl; simp_all
                    simp_all [readD]
                  · refine J_skip ?_
                    show J _ _ _ _ _ _
                    refine J_rs ?_
                    refine R_loadbs Wide.wide 0 (vs := (mkD x [p0, p1, p2, p3, p4, p5, p6]).cells) rfl rfl _ Try.underlying43 rfl Try.type43 rfl rfl rfl ?_
                    refine R_store Wide.wide 2 (vs := (mkD x [p0, p1, p2, p3, p4, p5, p6]).cells) (cs' := (mkD x [p0, p1, p2, p3, p4, p5, p6]).cells) rfl rfl rfl rfl Try.type43 rfl (Nat.le_of_ble_eq_true rfl) rfl rfl rfl ?_
                    refine R_p Wide.wide (P_assign rfl) rfl rfl ?_
                    refine JL_nil ?_
                    refine J_ret ?_
                    refine FinM.cons _ (.inl rfl) [D] (res' := [.box b11 43 (mkD x [p0, p1, p2, p3, p4, p5, p6]).cells, .box b6 94 [w], .box b4 43 (mkD x [p0, p1, p2, p3, p4, p5, p6]).cells]) (R' := []) _ rfl (List.perm_append_comm (l₁ := ([.box b11 43 (mkD x [p0, p1, p2, p3, p4, p5, p6]).cells, .box b6 94 [w], .box b4 43 (mkD x [p0, p1, p2, p3, p4, p5, p6]).cells] : List Res)) (l₂ := [Res.obj D shut])) (List.Perm.refl _) (Reads.two rfl (RV.cell 2 (t := 43) (cs := (mkD x [p0, p1, p2, p3, p4, p5, p6]).cells) _ rfl rfl Try.underlying43 rfl Try.type43 rfl) (RV.tmp rfl)) fun h hf => ⟨rfl, ?_⟩
                    have hno : okD x [p0, p1, p2, p3, p4, p5, p6] = true := by simp [okD]; have h4 : gN [p0, p1, p2, p3, p4, p5, p6] 4 = p4.n := rfl; simp_all
                    simp_all [readD]
                · refine G_gn rfl rfl rfl rfl ?_
                  refine G_gn rfl rfl rfl rfl ?_
                  refine G_gn rfl rfl rfl rfl ?_
                  refine G_gn rfl rfl rfl rfl ?_
                  refine G_gn rfl rfl rfl rfl ?_
                  refine G_gn rfl rfl rfl rfl ?_
                  refine G_p (P_pickt rfl rfl) rfl rfl ?_
                  refine G_nil0 ?_
                  refine JL_nil ?_
                  refine J_ift rfl ?_
                  refine J_rs ?_
                  refine R_p Wide.wide (P_build [1, 1, 3, 1, 1, 1, 1] Try.underlying43 Try.type43 rfl rfl (ivs := []) (cs := D0.cells) rfl rfl) rfl rfl ?_
                  refine R_store Wide.wide 2 (vs := D0.cells) rfl rfl rfl rfl Try.type43 rfl (Nat.le_of_ble_eq_true rfl) rfl rfl rfl ?_
                  refine R_p Wide.wide (P_assign rfl) rfl rfl ?_
                  refine JL_nil ?_
                  refine J_ret ?_
                  refine FinM.cons _ (.inl rfl) [D] (res' := [.box b11 43 (mkD x [p0, p1, p2, p3, p4, p5, p6]).cells, .box b6 94 [w], .box b4 43 D0.cells]) (R' := []) _ rfl (List.perm_append_comm (l₁ := ([.box b11 43 (mkD x [p0, p1, p2, p3, p4, p5, p6]).cells, .box b6 94 [w], .box b4 43 D0.cells] : List Res)) (l₂ := [Res.obj D shut])) (List.Perm.refl _) (Reads.two rfl (RV.cell 2 (t := 43) (cs := D0.cells) _ rfl rfl Try.underlying43 rfl Try.type43 rfl) (RV.tmp rfl)) fun h hf => ⟨rfl, ?_⟩
                  have hno : okD x [p0, p1, p2, p3, p4, p5, p6] = false := by simp [okD]; have h4 : gN [p0, p1, p2, p3, p4, p5, p6] 4 = p4.n := rfl; simp_all
                  simp_all [readD]
              · refine G_gn rfl rfl rfl rfl ?_
                refine G_gn rfl rfl rfl rfl ?_
                refine G_gn rfl rfl rfl rfl ?_
                refine G_p (P_pickt rfl rfl) rfl rfl ?_
                refine G_p (P_move rfl) rfl rfl ?_
                refine G_gn rfl rfl rfl rfl ?_
                refine G_gn rfl rfl rfl rfl ?_
                refine G_gn rfl rfl rfl rfl ?_
                refine G_gn rfl rfl rfl rfl ?_
                refine G_gn rfl rfl rfl rfl ?_
                refine G_gn rfl rfl rfl rfl ?_
                refine G_gn rfl rfl rfl rfl ?_
                refine G_p (P_pickt rfl rfl) rfl rfl ?_
                refine G_nil0 ?_
                refine JL_nil ?_
                refine J_ift rfl ?_
                refine J_rs ?_
                refine R_p Wide.wide (P_build [1, 1, 3, 1, 1, 1, 1] Try.underlying43 Try.type43 rfl rfl (ivs := []) (cs := D0.cells) rfl rfl) rfl rfl ?_
                refine R_store Wide.wide 2 (vs := D0.cells) rfl rfl rfl rfl Try.type43 rfl (Nat.le_of_ble_eq_true rfl) rfl rfl rfl ?_
                refine R_p Wide.wide (P_assign rfl) rfl rfl ?_
                refine JL_nil ?_
                refine J_ret ?_
                refine FinM.cons _ (.inl rfl) [D] (res' := [.box b11 43 (mkD x [p0, p1, p2, p3, p4, p5, p6]).cells, .box b6 94 [w], .box b4 43 D0.cells]) (R' := []) _ rfl (List.perm_append_comm (l₁ := ([.box b11 43 (mkD x [p0, p1, p2, p3, p4, p5, p6]).cells, .box b6 94 [w], .box b4 43 D0.cells] : List Res)) (l₂ := [Res.obj D shut])) (List.Perm.refl _) (Reads.two rfl (RV.cell 2 (t := 43) (cs := D0.cells) _ rfl rfl Try.underlying43 rfl Try.type43 rfl) (RV.tmp rfl)) fun h hf => ⟨rfl, ?_⟩
                have hno : okD x [p0, p1, p2, p3, p4, p5, p6] = false := by simp [okD]; have h4 : gN [p0, p1, p2, p3, p4, p5, p6] 4 = p4.n := rfl; simp_all
                simp_all [readD]
            · refine J_tr Wide.wide 18 [(13, 2, 3), (15, 1, 1), (17, 0, 1)] b11 [(2, .int .i64 p0.v.k), (3, .int .i64 p0.v.n), (4, .string (bs p0.v.s)), (1, .int .i64 p1.n), (0, .int .i64 p2.n)] rfl (by kernel_rfl) ?_
              refine T_p (i := 0) (P_move rfl) rfl rfl rfl ?_
              refine T_p (i := 0) (P_indexAddr (i := 0) rfl rfl Try.underlying39 Try.type38 rfl (by omega)) rfl rfl rfl ?_
              refine T_p (i := 0) (P_fieldAddr rfl Try.underlying38 rfl Try.type36 rfl rfl) rfl rfl rfl ?_
              refine T_loads (i := 0) (vs := p0.v.cells) rfl _ Try.underlying36 rfl Try.type36 rfl rfl rfl rfl (fun h hf => RdC.mid hf.2 2 (vs := p0.v.cells) rfl) ?_
              refine T_p (i := 0) (P_move rfl) rfl rfl rfl ?_
              refine T_p (i := 0) (P_indexAddr (i := 1) rfl rfl Try.underlying39 Try.type38 rfl (by omega)) rfl rfl rfl ?_
              refine T_p (i := 0) (P_fieldAddr rfl Try.underlying38 rfl Try.type2 rfl rfl) rfl rfl rfl ?_
              refine T_load (i := 0) rfl _ Try.underlying2 rfl rfl rfl rfl (fun h hf => hf.2 6 _ rfl) ?_
              refine T_p (i := 0) (P_move rfl) rfl rfl rfl ?_
              refine T_p (i := 0) (P_indexAddr (i := 2) rfl rfl Try.underlying39 Try.type38 rfl (by omega)) rfl rfl rfl ?_
              refine T_p (i := 0) (P_fieldAddr rfl Try.underlying38 rfl Try.type2 rfl rfl) rfl rfl rfl ?_
              refine T_load (i := 0) rfl _ Try.underlying2 rfl rfl rfl rfl (fun h hf => hf.2 11 _ rfl) ?_
              refine T_p (i := 0) (P_fieldAddr rfl Try.underlying43 rfl Try.type36 rfl rfl) rfl rfl rfl ?_
              refine T_store (i := 0) rfl rfl rfl rfl Try.type36 rfl (Nat.le_of_ble_eq_true rfl) rfl rfl rfl ?_
              refine T_p (i := 0) (P_fieldAddr rfl Try.underlying43 rfl Try.type2 rfl rfl) rfl rfl rfl ?_
              refine T_store (i := 0) rfl rfl rfl rfl Try.type2 rfl (Nat.le_of_ble_eq_true rfl) rfl rfl rfl ?_
              refine T_p (i := 0) (P_fieldAddr rfl Try.underlying43 rfl Try.type2 rfl rfl) rfl rfl rfl ?_
              refine T_store (i := 0) rfl rfl rfl rfl Try.type2 rfl (Nat.le_of_ble_eq_true rfl) rfl rfl rfl ?_
              refine T_nil (cs' := (mkD x [p0, p1, p2, p3, p4, p5, p6]).cells) 0 rfl (by have h1 := of_decide_eq_false hb69; have h2 := of_decide_eq_false hb86; have h3 := of_decide_eq_false hb103; simp only [mkD, if_neg h1, if_neg h2, if_neg h3]; rfl) rfl rfl ?_
              refine JL_nil ?_
              refine J_seq ?_
              refine J_ds Wide.wide 18 [(1, fun _ u _ => u = .bool (mayD (mkD x [p0, p1, p2, p3, p4, p5, p6]))), (6, fun _ u _ => u = .bool (hasO x (mkD x [p0, p1, p2, p3, p4, p5, p6]))), (15, fun _ u _ => u = .int .i64 (addN (mkD x [p0, p1, p2, p3, p4, p5, p6])))] rfl (by kernel_rfl) ?_
              refine G_loadbs 0 (vs := (mkD x [p0, p1, p2, p3, p4, p5, p6]).cells) rfl rfl _ Try.underlying43 rfl Try.type43 rfl rfl rfl rfl ?_
              refine G_fv Try.call19 rfl (c19 hms) (fun h hf hg => trivial) rfl rfl ?_
              refine G_p (P_not rfl) rfl rfl ?_
              refine G_p (P_move rfl) rfl rfl ?_
              refine G_gd rfl rfl rfl (fun hb123 => ?_) (fun hb123 => ?_)
              · refine G_p (P_move rfl) rfl rfl ?_
                refine G_gy rfl rfl ?_
                refine G_loadbs 0 (vs := (mkD x [p0, p1, p2, p3, p4, p5, p6]).cells) rfl rfl _ Try.underlying43 rfl Try.type43 rfl rfl rfl rfl ?_
                refine G_gy rfl rfl ?_
                refine G_fv Try.call21 rfl c21 (fun h hf hg => trivial) rfl rfl ?_
                refine G_gy rfl rfl ?_
                refine G_p (P_not rfl) rfl rfl ?_
                refine G_p (P_pickf rfl rfl) rfl rfl ?_
                refine G_p (P_move rfl) rfl rfl ?_
                refine G_gd rfl rfl rfl (fun hb129 => ?_) (fun hb129 => ?_)
                · refine G_p (P_move rfl) rfl rfl ?_
                  refine G_gy rfl rfl ?_
                  refine G_p (P_indexAddr (i := 4) rfl rfl Try.underlying39 Try.type38 rfl (by omega)) rfl rfl ?_
                  refine G_gy rfl rfl ?_
                  refine G_p (P_fieldAddr rfl Try.underlying38 rfl Try.type2 rfl rfl) rfl rfl ?_
                  refine G_gy rfl rfl ?_
                  refine G_load rfl _ Try.underlying2 rfl rfl rfl (fun h hf hg => hf.2 21 _ rfl) ?_
                  refine G_gy rfl rfl ?_
                  refine G_loadbs 0 (vs := (mkD x [p0, p1, p2, p3, p4, p5, p6]).cells) rfl rfl _ Try.underlying43 rfl Try.type43 rfl rfl rfl rfl ?_
                  refine G_gy rfl rfl ?_
                  refine G_fv Try.call43 rfl c43 (fun h hf hg => trivial) rfl rfl ?_
                  refine G_gy rfl rfl ?_
                  refine G_p (P_nei rfl rfl) rfl rfl ?_
                  refine G_p (P_pickf rfl rfl) rfl rfl ?_
                  refine G_nil0 ?_
                  refine JL_nil ?_
                  refine J_ifs rfl (fun hb137 => ?_) (fun hb137 => ?_)
                  · refine J_rs ?_
                    refine R_p Wide.wide (P_build [1, 1, 3, 1, 1, 1, 1] Try.underlying43 Try.type43 rfl rfl (ivs := []) (cs := D0.cells) rfl rfl) rfl rfl ?_
                    refine R_store Wide.wide 2 (vs := D0.cells) rfl rfl rfl rfl Try.type43 rfl (Nat.le_of_ble_eq_true rfl) rfl rfl rfl ?_
                    refine R_p Wide.wide (P_assign rfl) rfl rfl ?_
                    refine JL_nil ?_
                    refine J_ret ?_
                    refine FinM.cons _ (.inl rfl) [D] (res' := [.box b11 43 (mkD x [p0, p1, p2, p3, p4, p5, p6]).cells, .box b6 94 [w], .box b4 43 D0.cells]) (R' := []) _ rfl (List.perm_append_comm (l₁ := ([.box b11 43 (mkD x [p0, p1, p2, p3, p4, p5, p6]).cells, .box b6 94 [w], .box b4 43 D0.cells] : List Res)) (l₂ := [Res.obj D shut])) (List.Perm.refl _) (Reads.two rfl (RV.cell 2 (t := 43) (cs := D0.cells) _ rfl rfl Try.underlying43 rfl Try.type43 rfl) (RV.tmp rfl)) fun h hf => ⟨rfl, ?_⟩
                    have hno : okD x [p0, p1, p2, p3, p4, p5, p6] = false := by simp [okD]; have h4 : gN [p0, p1, p2, p3, p4, p5, p6] 4 = p4.n := rfl; simp_all
                    simp_all [readD]
                  · refine J_skip ?_
                    show J _ _ _ _ _ _
                    refine J_rs ?_
                    refine R_loadbs Wide.wide 0 (vs := (mkD x [p0, p1, p2, p3, p4, p5, p6]).cells) rfl rfl _ Try.underlying43 rfl Try.type43 rfl rfl rfl ?_
                    refine R_store Wide.wide 2 (vs := (mkD x [p0, p1, p2, p3, p4, p5, p6]).cells) (cs' := (mkD x [p0, p1, p2, p3, p4, p5, p6]).cells) rfl rfl rfl rfl Try.type43 rfl (Nat.le_of_ble_eq_true rfl) rfl rfl rfl ?_
                    refine R_p Wide.wide (P_assign rfl) rfl rfl ?_
                    refine JL_nil ?_
                    refine J_ret ?_
                    refine FinM.cons _ (.inl rfl) [D] (res' := [.box b11 43 (mkD x [p0, p1, p2, p3, p4, p5, p6]).cells, .box b6 94 [w], .box b4 43 (mkD x [p0, p1, p2, p3, p4, p5, p6]).cells]) (R' := []) _ rfl (List.perm_append_comm (l₁ := ([.box b11 43 (mkD x [p0, p1, p2, p3, p4, p5, p6]).cells, .box b6 94 [w], .box b4 43 (mkD x [p0, p1, p2, p3, p4, p5, p6]).cells] : List Res)) (l₂ := [Res.obj D shut])) (List.Perm.refl _) (Reads.two rfl (RV.cell 2 (t := 43) (cs := (mkD x [p0, p1, p2, p3, p4, p5, p6]).cells) _ rfl rfl Try.underlying43 rfl Try.type43 rfl) (RV.tmp rfl)) fun h hf => ⟨rfl, ?_⟩
                    have hno : okD x [p0, p1, p2, p3, p4, p5, p6] = true := by simp [okD]; have h4 : gN [p0, p1, p2, p3, p4, p5, p6] 4 = p4.n := rfl; simp_all
                    simp_all [readD]
                · refine G_gn rfl rfl rfl rfl ?_
                  refine G_gn rfl rfl rfl rfl ?_
                  refine G_gn rfl rfl rfl rfl ?_
                  refine G_gn rfl rfl rfl rfl ?_
                  refine G_gn rfl rfl rfl rfl ?_
                  refine G_gn rfl rfl rfl rfl ?_
                  refine G_p (P_pickt rfl rfl) rfl rfl ?_
                  refine G_nil0 ?_
                  refine JL_nil ?_
                  refine J_ift rfl ?_
                  refine J_rs ?_
                  refine R_p Wide.wide (P_build [1, 1, 3, 1, 1, 1, 1] Try.underlying43 Try.type43 rfl rfl (ivs := []) (cs := D0.cells) rfl rfl) rfl rfl ?_
                  refine R_store Wide.wide 2 (vs := D0.cells) rfl rfl rfl rfl Try.type43 rfl (Nat.le_of_ble_eq_true rfl) rfl rfl rfl ?_
                  refine R_p Wide.wide (P_assign rfl) rfl rfl ?_
                  refine JL_nil ?_
                  refine J_ret ?_
                  refine FinM.cons _ (.inl rfl) [D] (res' := [.box b11 43 (mkD x [p0, p1, p2, p3, p4, p5, p6]).cells, .box b6 94 [w], .box b4 43 D0.cells]) (R' := []) _ rfl (List.perm_append_comm (l₁ := ([.box b11 43 (mkD x [p0, p1, p2, p3, p4, p5, p6]).cells, .box b6 94 [w], .box b4 43 D0.cells] : List Res)) (l₂ := [Res.obj D shut])) (List.Perm.refl _) (Reads.two rfl (RV.cell 2 (t := 43) (cs := D0.cells) _ rfl rfl Try.underlying43 rfl Try.type43 rfl) (RV.tmp rfl)) fun h hf => ⟨rfl, ?_⟩
                  have hno : okD x [p0, p1, p2, p3, p4, p5, p6] = false := by simp [okD]; have h4 : gN [p0, p1, p2, p3, p4, p5, p6] 4 = p4.n := rfl; simp_all
                  simp_all [readD]
              · refine G_gn rfl rfl rfl rfl ?_
                refine G_gn rfl rfl rfl rfl ?_
                refine G_gn rfl rfl rfl rfl ?_
                refine G_p (P_pickt rfl rfl) rfl rfl ?_
                refine G_p (P_move rfl) rfl rfl ?_
                refine G_gn rfl rfl rfl rfl ?_
                refine G_gn rfl rfl rfl rfl ?_
                refine G_gn rfl rfl rfl rfl ?_
                refine G_gn rfl rfl rfl rfl ?_
                refine G_gn rfl rfl rfl rfl ?_
                refine G_gn rfl rfl rfl rfl ?_
                refine G_gn rfl rfl rfl rfl ?_
                refine G_p (P_pickt rfl rfl) rfl rfl ?_
                refine G_nil0 ?_
                refine JL_nil ?_
                refine J_ift rfl ?_
                refine J_rs ?_
                refine R_p Wide.wide (P_build [1, 1, 3, 1, 1, 1, 1] Try.underlying43 Try.type43 rfl rfl (ivs := []) (cs := D0.cells) rfl rfl) rfl rfl ?_
                refine R_store Wide.wide 2 (vs := D0.cells) rfl rfl rfl rfl Try.type43 rfl (Nat.le_of_ble_eq_true rfl) rfl rfl rfl ?_
                refine R_p Wide.wide (P_assign rfl) rfl rfl ?_
                refine JL_nil ?_
                refine J_ret ?_
                refine FinM.cons _ (.inl rfl) [D] (res' := [.box b11 43 (mkD x [p0, p1, p2, p3, p4, p5, p6]).cells, .box b6 94 [w], .box b4 43 D0.cells]) (R' := []) _ rfl (List.perm_append_comm (l₁ := ([.box b11 43 (mkD x [p0, p1, p2, p3, p4, p5, p6]).cells, .box b6 94 [w], .box b4 43 D0.cells] : List Res)) (l₂ := [Res.obj D shut])) (List.Perm.refl _) (Reads.two rfl (RV.cell 2 (t := 43) (cs := D0.cells) _ rfl rfl Try.underlying43 rfl Try.type43 rfl) (RV.tmp rfl)) fun h hf => ⟨rfl, ?_⟩
                have hno : okD x [p0, p1, p2, p3, p4, p5, p6] = false := by simp [okD]; have h4 : gN [p0, p1, p2, p3, p4, p5, p6] 4 = p4.n := rfl; simp_all
                simp_all [readD]
    · exact hX.elim

end Go.Proofs.Ytgheodbcgddjlaa
