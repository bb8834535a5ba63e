/- Walks: order.Read. -/
import Derived.Test.YtgheodbcgddjlaaW15
set_option linter.unusedVariables false
set_option linter.unusedSimpArgs false
namespace Go.Ix
open Go.Hl
/-- The parts of bytes; none: they are no parts. -/
def readP (ks : List Bool) (l : List UInt8) : Option (List Pt) := if (partsR ks (l, false)).2.2 = true ∨ 0 < (partsR ks (l, false)).2.1.length then none else some (partsR ks (l, false)).1
theorem partsR_length : ∀ (ks : List Bool) (s : Rs), (partsR ks s).1.length ≤ ks.length
  | [], _ => Nat.le_refl _
  | k :: ks, s => by
    simp only [partsR]
    split
    · exact Nat.zero_le _
    · have := partsR_length ks (partR k s).2; simpa using this
end Go.Ix
namespace Go.Proofs.Ytgheodbcgddjlaa
open Go.RowKit Go.Grow Go.Hl Go.Ix
theorem Rd.one {h : Hp} {v : Value} {n : Nat} {xs : List Value} (H : Rd h v n xs) : clist v = [v] ∧ v.cells = #[v] ∧ v.oneCell' = true := by
  rcases H with ⟨rfl, _⟩ | ⟨b, off, cap, rfl, _⟩ <;> exact ⟨rfl, rfl, rfl⟩

set_option maxRecDepth 100000 in
theorem c53 {rb : Nat} {kv : Value} {ks : List Bool} : FnC Try.prog 53 [.pointer (some ⟨rb, 0, none⟩), kv].toArray (fun h => Rd h kv ks.length (bb ks)) (fun u h => ∃ b2 b3, u = .func (.func 56) #[] [.pointer (some ⟨b2, 0, none⟩), .pointer (some ⟨b3, 0, none⟩)].toArray ∧ Kp kv ks rb b2 b3 h) := by
  refine fn_of_J Try.func53 rfl inferInstance 6 Try.ntmps53 (Nat.le_of_ble_eq_true rfl) fun W0 h0 => ?_
  refine J_pure (fun h hf => Rd.one hf) fun hkv => ?_
  refine J_rs ?_
  refine R_box Wide.wide rfl rfl rfl (fun b2 => ?_)
  refine R_box Wide.wide (cs := [kv]) rfl hkv.2.1 rfl (fun b3 => ?_)
  refine R_p Wide.wide (P_assign rfl) rfl rfl ?_
  refine JL_nil ?_
  refine J_rs ?_
  refine R_p Wide.wide (P_func (vs := []) (us := [.pointer (some ⟨b3, 0, none⟩), .pointer (some ⟨b2, 0, none⟩)]) rfl rfl) rfl rfl ?_
  refine R_p Wide.wide (P_assign rfl) rfl rfl ?_
  refine JL_nil ?_
  refine J_pubbox (b := b3) (t := 94) (cs := [kv]) [] [.box b2 108 [.pointer (some ⟨rb, 0, none⟩)]] rfl ?_
  refine J_pubbox (b := b2) (t := 108) (cs := [.pointer (some ⟨rb, 0, none⟩)]) [] [] rfl ?_
  refine J_ret ?_
  refine Fin.ret _ (.inl rfl) rfl (Reads.one rfl (RV.tmp rfl)) fun h hf => ⟨b3, b2, rfl, hf.1.2, hf.2, hf.1.1⟩

set_option maxRecDepth 100000 in
theorem c42 {v kv : Value} {l : List UInt8} {ks : List Bool} (hl : l.length ≤ 1000000) (hks : ks.length ≤ 1000) : FnC Try.prog 42 [v, kv].toArray (fun h => Bs h v l ∧ Rd h kv ks.length (bb ks)) (fun u h => (readP ks l = none ∧ u = .tuple #[.slice none 0 0, .int .i64 20]) ∨ ∃ ps w, readP ks l = some ps ∧ u = .tuple #[w, .int .i64 0] ∧ RdP h w ps) := by
  refine ct_of_JM (R := []) Try.func42 rfl inferInstance 33 Try.ntmps42 (Nat.le_of_ble_eq_true rfl) fun W0 h0 => ?_
  refine J_pure (fun h hf => Rd.one hf.1) fun hv => ?_
  refine J_rs ?_
  refine R_p Wide.wide (P_assign rfl) rfl rfl ?_
  refine R_p Wide.wide (P_assign rfl) rfl rfl ?_
  refine JL_nil ?_
  refine J_rs ?_
  refine R_p Wide.wide (P_move rfl) rfl rfl ?_
  refine R_p Wide.wide (P_build [1, 1] Try.underlying110 Try.type110 rfl rfl (ivs := [(0, v)]) (cs := [v, .bool false]) rfl (by
    have e4 : ∀ n, clist (.bool n) = [.bool n] := fun _ => rfl
    have e5 : ∀ cs, clist (.agg cs) = cs.toList := fun _ => rfl
    simp [lfill, place2, hv.1, e4, e5])) rfl rfl ?_
  refine R_box Wide.wide rfl rfl rfl (fun b11 => ?_)
  refine R_p Wide.wide (P_assign rfl) rfl rfl ?_
  refine JL_nil ?_
  refine J_rs ?_
  refine R_alloc Wide.wide Try.type39 rfl rfl rfl (fun b7 => ?_)
  refine JL_nil ?_
  refine J_seq ?_
  refine J_rs ?_
  refine R_p Wide.wide (P_move rfl) rfl rfl ?_
  refine R_p Wide.wide (P_move rfl) rfl rfl ?_
  refine R_fn Wide.wide Try.call53 rfl (c53 (rb := b11) (kv := kv) (ks := ks)) (fun h hf => hf.2) (fun _ => inferInstance) rfl (fun v14 => ?_)
  refine JL_nil ?_
  refine J_block ?_
  refine J_ownnil 38 5 ?_
  refine J_ex (fun (p : Nat × Nat) h => v14 = .func (.func 56) #[] [.pointer (some ⟨p.1, 0, none⟩), .pointer (some ⟨p.2, 0, none⟩)].toArray ∧ Kp kv ks b11 p.1 p.2 h) (fun _ => inferInstance) (fun h hf => let ⟨x2, x3, e⟩ := hf.2; ⟨(x2, x3), e⟩) ?_
  rintro ⟨d2, d3⟩
  refine J_pure (fun h hf => hf.2.1) fun ee => ?_
  subst ee
  refine J_facts (fun h => Kp kv ks b11 d2 d3 h ∧ Bs h v l) (fun h hf => ⟨hf.2.2, hf.1.1.1⟩) ?_
  refine J_range (gf := 56) (lb := [.pointer (some ⟨d2, 0, none⟩), .pointer (some ⟨d3, 0, none⟩)]) (encs := fun p : Pt => [.agg p.cells.toArray]) (xs := (partsR ks (l, false)).1) (Rit := [.box b11 110 [v, .bool false]]) (rest := [.own (.slice none 0 0) 38 5 0 [], .box b7 39 [.slice none 0 0]]) rfl Try.call56 (c56 (kv := kv) (v := v) (ks := ks) (rb := b11) (c2 := d2) (c3 := d3) (l := l) (bad := false) hl (by omega)) (fun _ => inferInstance) (List.perm_append_comm (l₁ := [Res.own (.slice none 0 0) 38 5 0 [], .box b7 39 [.slice none 0 0]]) (l₂ := [Res.box b11 110 [v, .bool false]])) (fun h hf => hf) (fun _ => rfl) rfl
    (fun pre S => ∃ w, S.res = [.own w 38 5 pre.length (pre.flatMap Pt.cells), .box b7 39 [w]]) (fun _ _ _ => False) ⟨.slice none 0 0, rfl⟩ (fun W h M ly E E' pre p suf S hxs hT => ?_) (fun S D R' hT hx => ?_) (fun S D c pre hpre hX => ?_)
  · obtain ⟨w, hres⟩ := hT
    obtain ⟨ssl, sres, sfc, smn, sdf⟩ := S
    dsimp only at hres ⊢
    subst hres
    have hlen : pre.length < 1000 := by have h1 := congrArg List.length hxs; have h2 := partsR_length ks (l, false); simp at h1; omega
    refine J_region ?_
    refine R_alloc (Wide.round ly) Try.type38 rfl rfl rfl (fun b8 => ?_)
    refine R_store (Wide.round ly) 0 rfl rfl rfl rfl Try.type38 rfl (Nat.le_of_ble_eq_true rfl) rfl rfl rfl ?_
    refine JL_nil ?_
    refine ⟨rfl, rfl, [.box b8 38 p.cells, .own w 38 5 pre.length (pre.flatMap Pt.cells), .box b7 39 [w]], rfl, ?_⟩
    refine J_block ?_
    refine J_region ?_
    refine R_loadb (Wide.round ly) 2 rfl rfl _ Try.underlying39 rfl rfl rfl ?_
    refine R_loadbs (Wide.round ly) 0 (vs := p.cells) rfl rfl _ Try.underlying38 rfl Try.type38 rfl rfl rfl ?_
    refine R_bslice (Wide.round ly) Try.underlying39 Try.type38 rfl (ivs := [(0, .agg p.cells.toArray)]) rfl rfl rfl rfl (fun b18 => ?_)
    refine R_append (Wide.round ly) 2 rfl rfl rfl Try.underlying39 Try.type38 rfl rfl rfl rfl (Src.box0 0 rfl) rfl rfl (by omega) rfl rfl (fun v19 => ?_)
    refine JL_own1 2 rfl (fun h19 g19 => ?_)
    refine R_store (Wide.round ly) 3 (vs := [v19]) rfl rfl rfl h19 Try.type39 rfl (Nat.le_of_ble_eq_true rfl) (by simp [g19]) rfl rfl ?_
    refine JL_nil ?_
    exact ⟨⟨[], [.own v19 38 5 (pre.length + 1) (pre.flatMap Pt.cells ++ p.cells), .box b7 39 [v19]], sfc, smn, []⟩, ⟨v19, by simp⟩, Le.drop 0 (Le.drop 0 (Le.mk trivial rfl rfl fun _ h => h))⟩
  · obtain ⟨w, hres⟩ := hT
    obtain ⟨ssl, sres, sfc, smn, sdf⟩ := S
    dsimp only at hres ⊢
    subst hres
    show J _ _ _ _ _ _
    refine J_ex (fun (v' : Value) h => R' = [.box b11 110 [v', .bool (partsR ks (l, false)).2.2]] ∧ Bs h v' (partsR ks (l, false)).2.1) (fun _ => inferInstance) (fun h hf => hf.2) fun v' => ?_
    refine J_pure (fun h hf => hf.2.1) fun eR => ?_
    subst eR
    refine J_facts (fun h => Bs h v' (partsR ks (l, false)).2.1) (fun h hf => hf.2.2) ?_
    refine J_seq ?_
    refine J_rs ?_
    refine R_p Wide.wide (P_move rfl) rfl rfl ?_
    refine R_p Wide.wide (P_nil rfl) rfl rfl ?_
    refine R_p Wide.wide (P_fieldAddr rfl Try.underlying110 rfl Try.type4 rfl rfl) rfl rfl ?_
    refine R_loadb Wide.wide 2 rfl rfl _ Try.underlying4 rfl rfl rfl ?_
    refine R_p Wide.wide (P_move rfl) rfl rfl ?_
    refine R_gd Wide.wide rfl rfl rfl (fun hb24 => ?_) (fun hb24 => ?_)
    · refine R_p Wide.wide (P_move rfl) rfl rfl ?_
      refine R_gy rfl rfl ?_
      refine R_p Wide.wide (P_nil rfl) rfl rfl ?_
      refine R_gy rfl rfl ?_
      refine R_p Wide.wide (P_fieldAddr rfl Try.underlying110 rfl Try.type49 rfl rfl) rfl rfl ?_
      refine R_gy rfl rfl ?_
      refine R_loadb Wide.wide 2 rfl rfl _ Try.underlying49 rfl rfl rfl ?_
      refine R_gy rfl rfl ?_
      refine R_lenf Wide.wide rfl (fun h hf => hf) Try.underlying49 rfl ?_
      refine R_gy rfl rfl ?_
      refine R_p Wide.wide (P_gtr rfl rfl) rfl rfl ?_
      refine R_p Wide.wide (P_pickf rfl rfl) rfl rfl ?_
      refine JL_nil ?_
      refine J_ifs rfl (fun hb31 => ?_) (fun hb31 => ?_)
      · refine J_rs ?_
        refine R_p Wide.wide (P_assign rfl) rfl rfl ?_
        refine R_p Wide.wide (P_assign rfl) rfl rfl ?_
        refine JL_nil ?_
        refine J_ret ?_
        refine FinM.cons _ (.inl rfl) [D] (res' := [.own w 38 5 (partsR ks (l, false)).1.length ((partsR ks (l, false)).1.flatMap Pt.cells), .box b7 39 [w], .box b11 110 [v', .bool (partsR ks (l, false)).2.2]]) (R' := []) _ rfl (List.perm_append_comm (l₁ := ([.own w 38 5 (partsR ks (l, false)).1.length ((partsR ks (l, false)).1.flatMap Pt.cells), .box b7 39 [w], .box b11 110 [v', .bool (partsR ks (l, false)).2.2]] : List Res)) (l₂ := [Res.obj D shut])) (List.Perm.refl _) (Reads.two rfl (RV.tmp rfl) (RV.tmp rfl)) fun h hf => ⟨rfl, .inl ⟨?_, rfl⟩⟩
        unfold readP
        rw [if_pos]
        exact .inr (by have := of_decide_eq_true hb31; omega)
      · refine J_skip ?_
        show J _ _ _ _ _ _
        refine J_rs ?_
        refine R_loadb Wide.wide 1 rfl rfl _ Try.underlying39 rfl rfl rfl ?_
        refine R_p Wide.wide (P_assign rfl) rfl rfl ?_
        refine R_p Wide.wide (P_assign rfl) rfl rfl ?_
        refine JL_nil ?_
        refine J_pubown (v := w) [] [.box b7 39 [w], .box b11 110 [v', .bool (partsR ks (l, false)).2.2], .obj D shut] rfl ?_
        refine J_ret ?_
        refine FinM.cons _ (.inl rfl) [D] (res' := [.box b7 39 [w], .box b11 110 [v', .bool (partsR ks (l, false)).2.2]]) (R' := []) _ rfl (List.perm_append_comm (l₁ := [Res.box b7 39 [w], .box b11 110 [v', .bool (partsR ks (l, false)).2.2]]) (l₂ := [Res.obj D shut])) (List.Perm.refl _) (Reads.two rfl (RV.tmp rfl) (RV.tmp rfl)) fun h hf => ⟨rfl, .inr ⟨_, w, ?_, rfl, Row.rd hf.2⟩⟩
        unfold readP
        rw [if_neg]
        have h1 := of_decide_eq_false hb31
        simp only [not_or]
        exact ⟨by simp_all, by omega⟩
    · refine R_gn Wide.wide rfl rfl rfl rfl ?_
      refine R_gn Wide.wide rfl rfl rfl rfl ?_
      refine R_gn Wide.wide rfl rfl rfl rfl ?_
      refine R_gn Wide.wide rfl rfl rfl rfl ?_
      refine R_gn Wide.wide rfl rfl rfl rfl ?_
      refine R_p Wide.wide (P_pickt rfl rfl) rfl rfl ?_
      refine JL_nil ?_
      refine J_ift rfl ?_
      refine J_rs ?_
      refine R_p Wide.wide (P_assign rfl) rfl rfl ?_
      refine R_p Wide.wide (P_assign rfl) rfl rfl ?_
      refine JL_nil ?_
      refine J_ret ?_
      refine FinM.cons _ (.inl rfl) [D] (res' := [.own w 38 5 (partsR ks (l, false)).1.length ((partsR ks (l, false)).1.flatMap Pt.cells), .box b7 39 [w], .box b11 110 [v', .bool (partsR ks (l, false)).2.2]]) (R' := []) _ rfl (List.perm_append_comm (l₁ := ([.own w 38 5 (partsR ks (l, false)).1.length ((partsR ks (l, false)).1.flatMap Pt.cells), .box b7 39 [w], .box b11 110 [v', .bool (partsR ks (l, false)).2.2]] : List Res)) (l₂ := [Res.obj D shut])) (List.Perm.refl _) (Reads.two rfl (RV.tmp rfl) (RV.tmp rfl)) fun h hf => ⟨rfl, .inl ⟨?_, rfl⟩⟩
      unfold readP
      rw [if_pos]
      exact .inl hb24
  · exact hX.elim

end Go.Proofs.Ytgheodbcgddjlaa
