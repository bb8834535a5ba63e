/- Walks: a datom's parts as a list; its key. -/
import Derived.Test.YtgheodbcgddjlaaW3
set_option linter.unusedVariables false
set_option linter.unusedSimpArgs false
namespace Go.Proofs.Ytgheodbcgddjlaa
open Go.RowKit Go.Grow Go.Hl Go.Ix

set_option maxRecDepth 100000 in
theorem c34 {x : Int} {d : D} : FnC Try.prog 34 [.int .i64 x, .agg d.cells.toArray].toArray (fun _ => True) (fun u h => ∃ b2 b3, u = .func (.func 44) #[] [.pointer (some ⟨b2, 0, none⟩), .pointer (some ⟨b3, 0, none⟩)].toArray ∧ h b2 = some (.cells #[.int .i64 x] 3 (0, 0)) ∧ h b3 = some (.cells d.cells.toArray 43 (0, 0))) := by
  refine fn_of_J Try.func34 rfl inferInstance 6 Try.ntmps34 (Nat.le_of_ble_eq_true rfl) fun W0 h0 => ?_
  refine J_rs ?_
  refine R_box Wide.wide rfl rfl rfl (fun b2 => ?_)
  refine R_box Wide.wide rfl rfl rfl (fun b3 => ?_)
  refine R_p Wide.wide (P_assign rfl) rfl rfl ?_
  refine JL_nil ?_
  refine J_rs ?_
  refine R_p Wide.wide (P_func (vs := []) (us := [.pointer (some ⟨b2, 0, none⟩), .pointer (some ⟨b3, 0, none⟩)]) rfl rfl) rfl rfl ?_
  refine R_p Wide.wide (P_assign rfl) rfl rfl ?_
  refine JL_nil ?_
  refine J_pubbox (b := b3) (t := 43) (cs := d.cells) [] [.box b2 3 [.int .i64 x]] rfl ?_
  refine J_pubbox (b := b2) (t := 3) (cs := [.int .i64 x]) [] [] rfl ?_
  refine J_ret ?_
  refine Fin.ret _ (.inl rfl) rfl (Reads.one rfl (RV.tmp rfl)) fun h hf => ⟨b2, b3, rfl, hf.2, hf.1.2⟩

set_option maxRecDepth 100000 in
theorem c23 {x : Int} {d : D} : FnC Try.prog 23 [.int .i64 x, .agg d.cells.toArray].toArray (fun _ => True) (fun u h => RdP h u (partsL x d)) := by
  refine ct_of_JM (R := []) Try.func23 rfl inferInstance 18 Try.ntmps23 (Nat.le_of_ble_eq_true rfl) fun W0 h0 => ?_
  refine J_rs ?_
  refine R_box Wide.wide rfl rfl rfl (fun b3 => ?_)
  refine R_p Wide.wide (P_assign rfl) rfl rfl ?_
  refine JL_nil ?_
  refine J_rs ?_
  refine R_alloc Wide.wide Try.type39 rfl rfl rfl (fun b5 => ?_)
  refine JL_nil ?_
  refine J_seq ?_
  refine J_rs ?_
  refine R_p Wide.wide (P_move rfl) rfl rfl ?_
  refine R_loadbs Wide.wide 1 (vs := d.cells) rfl rfl _ Try.underlying43 rfl Try.type43 rfl rfl rfl ?_
  refine R_fn Wide.wide Try.call34 rfl c34 (fun h hf => trivial) (fun _ => inferInstance) rfl (fun v10 => ?_)
  refine JL_ex (fun (p : Nat × Nat) h => v10 = .func (.func 44) #[] [.pointer (some ⟨p.1, 0, none⟩), .pointer (some ⟨p.2, 0, none⟩)].toArray ∧ h p.1 = some (.cells #[.int .i64 x] 3 (0, 0)) ∧ h p.2 = some (.cells (D.cells d).toArray 43 (0, 0))) (fun _ => inferInstance) (fun h hf => let ⟨b2, b3, e⟩ := hf.2; ⟨(b2, b3), e⟩) ?_
  rintro ⟨c2, c3⟩
  refine JL_fact (fun h hf => hf.2.1) fun e10 => ?_
  subst e10
  refine JL_nil ?_
  refine J_block ?_
  refine J_ownnil 38 5 ?_
  refine J_range (gf := 44) (lb := [.pointer (some ⟨c2, 0, none⟩), .pointer (some ⟨c3, 0, none⟩)]) (encs := encP2) (xs := (partsL x d).zipIdx) (Rit := []) rfl Try.call44 c44 (fun _ => inferInstance) (List.Perm.refl _) (fun h hf => ⟨hf.2.2.1, hf.2.2.2⟩) (fun _ => rfl) rfl
    (fun pre S => ∃ v, S.res = [.own v 38 5 pre.length ((pre.map (·.1)).flatMap Pt.cells), .box b5 39 [v], .box b3 43 d.cells]) (fun _ _ _ => False) ⟨.slice none 0 0, rfl⟩ (fun W h M ly E E' pre y suf S hxs hT => ?_) (fun S D R' hT hx => ?_) (fun S D c pre hpre hX => ?_)
  · obtain ⟨v, hres⟩ := hT
    obtain ⟨ssl, sres, sfc, smn, sdf⟩ := S
    dsimp only at hres ⊢
    subst hres
    obtain ⟨p, i⟩ := y
    have hlen : pre.length < 7 := by have := congrArg List.length hxs; simp [partsL_length] at this; omega
    refine J_region ?_
    refine R_alloc (Wide.round ly) Try.type38 rfl rfl rfl (fun b7 => ?_)
    refine R_store (Wide.round ly) 0 rfl rfl rfl rfl Try.type38 rfl (Nat.le_of_ble_eq_true rfl) rfl rfl rfl ?_
    refine JL_nil ?_
    refine ⟨rfl, rfl, [.box b7 38 p.cells, .own v 38 5 pre.length ((pre.map (·.1)).flatMap Pt.cells), .box b5 39 [v], .box b3 43 d.cells], rfl, ?_⟩
    refine J_block ?_
    refine J_region ?_
    refine R_loadb (Wide.round ly) 2 rfl rfl _ Try.underlying39 rfl rfl rfl ?_
    refine R_loadbs (Wide.round ly) 0 (vs := p.cells) rfl rfl _ Try.underlying38 rfl Try.type38 rfl rfl rfl ?_
    refine R_bslice (Wide.round ly) Try.underlying39 Try.type38 rfl (ivs := [(0, .agg p.cells.toArray)]) rfl rfl rfl rfl (fun b15 => ?_)
    refine R_append (Wide.round ly) 2 rfl rfl rfl Try.underlying39 Try.type38 rfl rfl rfl rfl (Src.box0 0 rfl) rfl rfl (by omega) rfl rfl (fun v16 => ?_)
    refine JL_own1 2 rfl (fun h16 g16 => ?_)
    refine R_store (Wide.round ly) 3 (vs := [v16]) rfl rfl rfl h16 Try.type39 rfl (Nat.le_of_ble_eq_true rfl) (by simp [g16]) rfl rfl ?_
    refine JL_nil ?_
    exact ⟨⟨[], [.own v16 38 5 (pre.length + 1) ((pre.map (·.1)).flatMap Pt.cells ++ p.cells), .box b5 39 [v16], .box b3 43 d.cells], sfc, smn, []⟩, ⟨v16, by simp⟩, Le.drop 0 (Le.drop 0 (Le.mk trivial rfl rfl fun _ h => h))⟩
  · obtain ⟨v, hres⟩ := hT
    obtain ⟨ssl, sres, sfc, smn, sdf⟩ := S
    dsimp only at hres ⊢
    subst hres
    show J _ _ _ _ _ _
    refine J_pure (p := R' = []) (fun h hf => hf.2) fun hR => ?_
    subst hR
    refine J_rs ?_
    refine R_loadb Wide.wide 1 rfl rfl _ Try.underlying39 rfl rfl rfl ?_
    refine R_p Wide.wide (P_assign rfl) rfl rfl ?_
    refine JL_nil ?_
    refine J_pubown (v := v) [] [.box b5 39 [v], .box b3 43 d.cells, .obj D shut] rfl ?_
    refine J_ret ?_
    refine FinM.cons _ (.inl rfl) [D] (res' := [.box b5 39 [v], .box b3 43 d.cells]) (R' := []) [.box b5 39 [v], .box b3 43 d.cells] rfl (List.perm_append_comm (l₁ := [Res.box b5 39 [v], .box b3 43 d.cells]) (l₂ := [Res.obj D shut])) (List.Perm.refl _) (Reads.one rfl (RV.tmp rfl)) fun h hf => ⟨rfl, ?_⟩
    have h1 := Row.rd hf.2
    have e1 : ((partsL x d).zipIdx.map (·.1)) = partsL x d := by simp
    rw [e1] at h1
    have h2 : Rd h v (partsL x d).length ((partsL x d).flatMap Pt.cells) := by simpa using h1
    exact h2
  · exact hX.elim

set_option maxRecDepth 100000 in
theorem c13 {x : Int} {d : D} (hs : d.v.s.length ≤ 1000000) : FnC Try.prog 13 [.int .i64 x, .agg d.cells.toArray].toArray (fun _ => True) (fun u h => ∃ w, u = .tuple #[w, .int .i64 (keyE x d)] ∧ Bs h w (keyD x d)) := by
  refine fn_of_J Try.func13 rfl inferInstance 24 Try.ntmps13 (Nat.le_of_ble_eq_true rfl) fun W0 h0 => ?_
  refine J_rs ?_
  refine R_box Wide.wide rfl rfl rfl (fun b3 => ?_)
  refine R_p Wide.wide (P_assign rfl) rfl rfl ?_
  refine R_p Wide.wide (P_assign rfl) rfl rfl ?_
  refine JL_nil ?_
  refine J_seq ?_
  refine J_rs ?_
  refine R_p Wide.wide (P_move rfl) rfl rfl ?_
  refine R_fv Wide.wide Try.call20 rfl c20 (fun h hf => trivial) rfl ?_
  refine R_p Wide.wide (P_not rfl) rfl rfl ?_
  refine JL_nil ?_
  refine J_ifs rfl (fun hb8 => ?_) (fun hb8 => ?_)
  · refine J_rs ?_
    refine R_p Wide.wide (P_assign rfl) rfl rfl ?_
    refine R_p Wide.wide (P_assign rfl) rfl rfl ?_
    refine JL_nil ?_
    refine J_ret ?_
    refine Fin.ret _ (.inl rfl) rfl (Reads.two rfl (RV.tmp rfl) (RV.tmp rfl)) fun h hf => ⟨.slice none 0 0, by simp_all [keyE], ?_⟩
    have : keyD x d = [] := by simp_all [keyD, keyOk]
    rw [this]; exact .inl ⟨rfl, rfl, rfl⟩
  · refine J_skip ?_
    show J _ _ _ _ _ _
    refine J_seq ?_
    refine J_rs ?_
    refine R_loadbs Wide.wide 0 (vs := d.cells) rfl rfl _ Try.underlying43 rfl Try.type43 rfl rfl rfl ?_
    refine R_fv Wide.wide Try.call19 rfl (c19 hs) (fun h hf => trivial) rfl ?_
    refine R_p Wide.wide (P_not rfl) rfl rfl ?_
    refine R_p Wide.wide (P_move rfl) rfl rfl ?_
    refine R_gd Wide.wide rfl rfl rfl (fun hb12 => ?_) (fun hb12 => ?_)
    · refine R_p Wide.wide (P_move rfl) rfl rfl ?_
      refine R_gy rfl rfl ?_
      refine R_loadbs Wide.wide 0 (vs := d.cells) rfl rfl _ Try.underlying43 rfl Try.type43 rfl rfl rfl ?_
      refine R_gy rfl rfl ?_
      refine R_fv Wide.wide Try.call21 rfl c21 (fun h hf => trivial) rfl ?_
      refine R_gy rfl rfl ?_
      refine R_p Wide.wide (P_not rfl) rfl rfl ?_
      refine R_p Wide.wide (P_pickf rfl rfl) rfl rfl ?_
      refine JL_nil ?_
      refine J_ifs rfl (fun hb17 => ?_) (fun hb17 => ?_)
      · refine J_rs ?_
        refine R_p Wide.wide (P_assign rfl) rfl rfl ?_
        refine R_p Wide.wide (P_assign rfl) rfl rfl ?_
        refine JL_nil ?_
        refine J_ret ?_
        refine Fin.ret _ (.inl rfl) rfl (Reads.two rfl (RV.tmp rfl) (RV.tmp rfl)) fun h hf => ⟨.slice none 0 0, by simp_all [keyE], ?_⟩
        have : keyD x d = [] := by simp_all [keyD, keyOk]
        rw [this]; exact .inl ⟨rfl, rfl, rfl⟩
      · refine J_skip ?_
        show J _ _ _ _ _ _
        refine J_rs ?_
        refine R_p Wide.wide (P_move rfl) rfl rfl ?_
        refine R_loadbs Wide.wide 0 (vs := d.cells) rfl rfl _ Try.underlying43 rfl Try.type43 rfl rfl rfl ?_
        refine R_fn Wide.wide Try.call23 rfl c23 (fun h hf => trivial) (fun _ => inferInstance) rfl (fun v20 => ?_)
        refine R_fn Wide.wide Try.call22 rfl (c22 (ps := partsL x d) (by rw [partsL_length]; omega) (parts_s x d _ hs)) (fun h hf => hf.2) (fun _ => inferInstance) rfl (fun v21 => ?_)
        refine JL_ex (fun (w : Value) h => v21 = .tuple #[w, .int .i64 (if (partsL x d).all okP then 0 else 10)] ∧ Bs h w (if (partsL x d).all okP then keyL (partsL x d) else [])) (fun _ => inferInstance) (fun h hf => hf.2) fun w21 => ?_
        refine JL_fact (fun h hf => hf.2.1) fun e21 => ?_
        subst e21
        refine R_p Wide.wide (P_extract rfl rfl) rfl rfl ?_
        refine R_p Wide.wide (P_extract rfl rfl) rfl rfl ?_
        refine R_p Wide.wide (P_assign rfl) rfl rfl ?_
        refine R_p Wide.wide (P_assign rfl) rfl rfl ?_
        refine JL_nil ?_
        refine J_ret ?_
        refine Fin.ret _ (.inl rfl) rfl (Reads.two rfl (RV.tmp rfl) (RV.tmp rfl)) fun h hf => ⟨w21, ?_, ?_⟩
        · have hm : mayD d = true := by simp_all
          have := okP_parts x hm
          simp_all [keyE]
        · have hm : mayD d = true := by simp_all
          have h1 := okP_parts x hm
          have h2 : keyD x d = keyL (partsL x d) := by simp_all [keyD, keyOk]
          have h3 := hf.2.2
          rw [h1] at h3
          rw [h2]; exact h3
    · refine R_gn Wide.wide rfl rfl rfl rfl ?_
      refine R_gn Wide.wide rfl rfl rfl rfl ?_
      refine R_gn Wide.wide rfl rfl rfl rfl ?_
      refine R_p Wide.wide (P_pickt rfl rfl) rfl rfl ?_
      refine JL_nil ?_
      refine J_ift rfl ?_
      refine J_rs ?_
      refine R_p Wide.wide (P_assign rfl) rfl rfl ?_
      refine R_p Wide.wide (P_assign rfl) rfl rfl ?_
      refine JL_nil ?_
      refine J_ret ?_
      refine Fin.ret _ (.inl rfl) rfl (Reads.two rfl (RV.tmp rfl) (RV.tmp rfl)) fun h hf => ⟨.slice none 0 0, by simp_all [keyE], ?_⟩
      have : keyD x d = [] := by simp_all [keyD, keyOk]
      rw [this]; exact .inl ⟨rfl, rfl, rfl⟩

end Go.Proofs.Ytgheodbcgddjlaa
