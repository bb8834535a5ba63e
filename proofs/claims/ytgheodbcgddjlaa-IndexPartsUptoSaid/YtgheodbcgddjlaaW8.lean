/- Walks: a tree's nodes from a key on, told one by one. -/
import Derived.Test.YtgheodbcgddjlaaW7
set_option linter.unusedVariables false
set_option linter.unusedSimpArgs false
namespace Go.Proofs.Ytgheodbcgddjlaa
open Go.RowKit Go.Grow Go.Hl Go.Ix

set_option maxRecDepth 100000 in
theorem c41 {t : T} {lv : Value} {lo : List UInt8} : FnC Try.prog 41 [t.ptr, lv].toArray (fun h => IsT h t ∧ Bs h lv lo) (fun u h => ∃ b2 b3, u = .func (.func 52) #[] [.pointer (some ⟨b2, 0, none⟩), .pointer (some ⟨b3, 0, none⟩)].toArray ∧ Cp lv lo t b2 b3 h) := by
  refine fn_of_J Try.func41 rfl inferInstance 6 Try.ntmps41 (Nat.le_of_ble_eq_true rfl) fun W0 h0 => ?_
  have ht : ∀ t : T, t.ptr.cells = #[t.ptr] := fun t => by cases t <;> rfl
  refine J_pure (p := lv.cells = #[lv]) (fun h hf => by rw [cells_clist, Bs.clist hf.2]) fun hlv => ?_
  refine J_rs ?_
  refine R_box Wide.wide (cs := [t.ptr]) rfl (ht t) rfl (fun b2 => ?_)
  refine R_box Wide.wide (cs := [lv]) rfl hlv rfl (fun b3 => ?_)
  refine R_p Wide.wide (P_assign rfl) rfl rfl ?_
  refine JL_nil ?_
  refine J_rs ?_
  refine R_p Wide.wide (P_func (vs := []) (us := [.pointer (some ⟨b2, 0, none⟩), .pointer (some ⟨b3, 0, none⟩)]) rfl rfl) rfl rfl ?_
  refine R_p Wide.wide (P_assign rfl) rfl rfl ?_
  refine JL_nil ?_
  refine J_pubbox (b := b3) (t := 49) (cs := [lv]) [] [.box b2 64 [t.ptr]] rfl ?_
  refine J_pubbox (b := b2) (t := 64) (cs := [t.ptr]) [] [] rfl ?_
  refine J_ret ?_
  refine Fin.ret _ (.inl rfl) rfl (Reads.one rfl (RV.tmp rfl)) fun h hf => ⟨b2, b3, rfl, hf.2, hf.1.2, hf.1.1.1, hf.1.1.2⟩

set_option maxRecDepth 100000 in
theorem c52 {lv : Value} {lo : List UInt8} : ∀ (t : T) {c2 c3 : Nat}, SeqCt Try.prog 52 [.pointer (some ⟨c2, 0, none⟩), .pointer (some ⟨c3, 0, none⟩)] [] (fun h => Cp lv lo t c2 c3 h) (fun x : T => [x.ptr]) (fromT lo t) (fun R' _ => R' = [])
  | .nil, c2, c3 => by
    intro ly0 Y Z mY mZ hy r
    have ea : #[Value.func (.yield ly0) #[] #[]] ++ [Value.pointer (some ⟨c2, 0, none⟩), .pointer (some ⟨c3, 0, none⟩)].toArray = [Value.func (.yield ly0) #[] #[], .pointer (some ⟨c2, 0, none⟩), .pointer (some ⟨c3, 0, none⟩)].toArray := by simp
    rw [ea]
    refine ct_of_JM Try.func52 rfl ⟨fun hle z => ⟨Mono.le (F := Cp lv lo _ c2 c3) hle z.1, (mY _ _).le hle z.2⟩⟩ 41 Try.ntmps52 (Nat.le_of_ble_eq_true rfl) fun W0 h0 => ?_
    refine J_rs ?_
    refine R_box Wide.wide rfl rfl rfl (fun b3 => ?_)
    refine JL_nil ?_
    refine J_seq ?_
    refine J_rs ?_
    refine R_load Wide.wide rfl _ Try.underlying64 rfl rfl (fun h hf => RdC.of_cells (cs := [.pointer none]) hf.1.1 0 _ rfl) ?_
    refine R_p Wide.wide (P_eqn rfl rfl Try.underlying64) rfl rfl ?_
    refine JL_nil ?_
    refine J_ift rfl ?_
    exact J_ret (FinM.nil _ (.inl rfl) (R' := [r]) [.box b3 107 [.func (.yield ly0) #[] #[]]] (List.Perm.swap _ _ []) (Reads.none rfl) fun h hf => ⟨r, [], rfl, .inl ⟨hf.2, rfl⟩⟩)
  | .node a nkv k l r0 dp mn, c2, c3 => by
    have il := fun {b2 b3 : Nat} => c52 (lv := lv) (lo := lo) l (c2 := b2) (c3 := b3)
    have ir := fun {b2 b3 : Nat} => c52 (lv := lv) (lo := lo) r0 (c2 := b2) (c3 := b3)
    intro ly0 Y Z mY mZ hy r
    have ea : #[Value.func (.yield ly0) #[] #[]] ++ [Value.pointer (some ⟨c2, 0, none⟩), .pointer (some ⟨c3, 0, none⟩)].toArray = [Value.func (.yield ly0) #[] #[], .pointer (some ⟨c2, 0, none⟩), .pointer (some ⟨c3, 0, none⟩)].toArray := by simp
    rw [ea]
    refine ct_of_JM Try.func52 rfl ⟨fun hle z => ⟨Mono.le (F := Cp lv lo _ c2 c3) hle z.1, (mY _ _).le hle z.2⟩⟩ 41 Try.ntmps52 (Nat.le_of_ble_eq_true rfl) fun W0 h0 => ?_
    refine J_rs ?_
    refine R_box Wide.wide rfl rfl rfl (fun b3 => ?_)
    refine JL_nil ?_
    refine J_seq ?_
    refine J_rs ?_
    refine R_load Wide.wide rfl _ Try.underlying64 rfl rfl (fun h hf => RdC.of_cells (cs := [(T.node a nkv k l r0 dp mn).ptr]) hf.1.1 0 _ rfl) ?_
    refine R_p Wide.wide (P_eqn rfl rfl Try.underlying64) rfl rfl ?_
    refine JL_nil ?_
    refine J_iff rfl ?_
    refine J_skip ?_
    show J _ _ _ _ _ _
    refine J_seq ?_
    refine J_ds Wide.wide 7 [(5, fun _ u _ => u = .int .i64 (cmpB k lo))] rfl (by kernel_rfl) ?_
    refine G_load rfl _ Try.underlying64 rfl rfl rfl (fun h hf hg => RdC.of_cells (cs := [(T.node a nkv k l r0 dp mn).ptr]) hf.1.1 0 _ rfl) ?_
    refine G_p (P_nil rfl) rfl rfl ?_
    refine G_p (P_fieldAddr rfl Try.underlying88 rfl Try.type49 rfl rfl) rfl rfl ?_
    refine G_load rfl _ Try.underlying49 rfl rfl rfl (fun h hf hg => IsT.cell hf.1.2.2.1 0 rfl) ?_
    refine G_load rfl _ Try.underlying49 rfl rfl rfl (fun h hf hg => RdC.of_cells (cs := [lv]) hf.1.2.1 0 _ rfl) ?_
    refine G_fv Try.call38 rfl (c38 (x := k) (y := lo)) (fun h hf hg => ⟨hf.1.2.2.1.2.1, hf.1.2.2.2⟩) rfl rfl ?_
    refine G_p (P_geq rfl rfl) rfl rfl ?_
    refine G_nil0 ?_
    refine JL_nil ?_
    refine J_ifs rfl (fun hb14 => ?_) (fun hb14 => ?_)
    · refine J_seq ?_
      have hFX : fromT lo (T.node a nkv k l r0 dp mn) = fromT lo l ++ [(T.node a nkv k l r0 dp mn)] ++ fromT lo r0 := by simp only [fromT]; rw [if_pos (of_decide_eq_true hb14)]
      refine J_ds Wide.wide 6 [(5, fun _ u h => ∃ b2 b3, u = .func (.func 52) #[] [.pointer (some ⟨b2, 0, none⟩), .pointer (some ⟨b3, 0, none⟩)].toArray ∧ Cp lv lo l b2 b3 h)] rfl (by kernel_rfl) ?_
      refine G_load rfl _ Try.underlying64 rfl rfl rfl (fun h hf hg => RdC.of_cells (cs := [(T.node a nkv k l r0 dp mn).ptr]) hf.1.1 0 _ rfl) ?_
      refine G_p (P_nil rfl) rfl rfl ?_
      refine G_p (P_fieldAddr rfl Try.underlying88 rfl Try.type64 rfl rfl) rfl rfl ?_
      refine G_load rfl _ Try.underlying64 rfl rfl rfl (fun h hf hg => IsT.cell hf.1.2.2.1 2 rfl) ?_
      refine G_load rfl _ Try.underlying49 rfl rfl rfl (fun h hf hg => RdC.of_cells (cs := [lv]) hf.1.2.1 0 _ rfl) ?_
      refine G_fn Try.call41 rfl (c41 (t := l) (lv := lv) (lo := lo)) (fun h hf hg => ⟨hf.1.2.2.1.2.2.1, hf.1.2.2.2⟩) rfl (fun _ _ z => z) (fun _ => inferInstance) rfl (fun v20 => ?_)
      refine G_nil ?_
      refine JL_nil ?_
      refine J_block ?_
      refine J_ex (fun (p : Nat × Nat) h => v20 = .func (.func 52) #[] [.pointer (some ⟨p.1, 0, none⟩), .pointer (some ⟨p.2, 0, none⟩)].toArray ∧ Cp lv lo l p.1 p.2 h) (fun _ => inferInstance) (fun h hf => let ⟨x2, x3, e⟩ := hf.2.1; ⟨(x2, x3), e⟩) ?_
      rintro ⟨d2, d3⟩
      refine J_pure (fun h hf => hf.2.1) fun ee => ?_
      subst ee
      refine J_facts (hG := ⟨fun hle z => ⟨⟨Mono.le (F := Cp lv lo (T.node a nkv k l r0 dp mn) c2 c3) hle z.1.1, (mY _ _).le hle z.1.2⟩, Mono.le (F := Cp lv lo l d2 d3) hle z.2⟩⟩) (fun h => (Cp lv lo (T.node a nkv k l r0 dp mn) c2 c3 h ∧ Y ([] : List T) r h) ∧ Cp lv lo l d2 d3 h) (fun h hf => ⟨hf.1.1, hf.2.2⟩) ?_
      refine J_perm [Res.box b3 107 [.func (.yield ly0) #[] #[]], r] (List.Perm.refl _) ?_
      refine J_range (gf := 52) (lb := [.pointer (some ⟨d2, 0, none⟩), .pointer (some ⟨d3, 0, none⟩)]) (encs := fun x : T => [x.ptr]) (xs := fromT lo l) (Rit := []) rfl Try.call52 (il (b2 := d2) (b3 := d3)) (fun _ => inferInstance) (List.Perm.refl _) (fun h hf => hf.2) (fun _ => rfl) rfl
        (fun pre S => ∃ r', S.res = [Res.box b3 107 [.func (.yield ly0) #[] #[]], r'] ∧ ∀ h, S.facts h → Cp lv lo (T.node a nkv k l r0 dp mn) c2 c3 h ∧ Y (([] : List T) ++ pre) r' h) (fun c pre S => c = .ret ∧ ∃ r', S.res = [Res.box b3 107 [.func (.yield ly0) #[] #[]], r'] ∧ ∀ h, S.facts h → ∃ pre', pre' <+: fromT lo (T.node a nkv k l r0 dp mn) ∧ Z pre' r' h) ⟨r, rfl, fun h hf => ⟨hf.1.1, by rw [List.append_nil]; exact hf.1.2⟩⟩ (fun W h M ly E E' pre y suf S hxs hT => ?_) (fun S D1 R' hT hx => ?_) (fun S D1 c pre hpre hX => ?_)
      · obtain ⟨r', hres, hres2⟩ := hT
        obtain ⟨ssl, sres, sfc, smn, sdf⟩ := S
        dsimp only at hres hres2 ⊢
        subst hres
        refine J_region ?_
        refine R_p (Wide.round ly) (P_assign rfl) rfl rfl ?_
        refine JL_nil ?_
        refine ⟨rfl, rfl, [Res.box b3 107 [.func (.yield ly0) #[] #[]], r'], rfl, ?_⟩
        refine J_block ?_
        refine J_rs ?_
        refine R_loadb (Wide.round ly) 0 rfl rfl _ Try.underlying107 rfl rfl rfl ?_
        refine R_p (Wide.round ly) (P_move rfl) rfl rfl ?_
        refine R_yieldY (.inr ⟨_, rfl⟩) mY mZ hy (pre := [] ++ pre) (x := y) (suf := suf ++ [(T.node a nkv k l r0 dp mn)] ++ fromT lo r0) (by rw [hFX, hxs]; simp) rfl rfl (List.Perm.swap _ _ _) (fun h hf => (hres2 h hf).2) rfl (fun r24 => ?_) (fun r24 => ?_)
        · refine R_p (Wide.round ly) (P_not rfl) rfl rfl ?_
          refine JL_nil ?_
          refine J_iff rfl ?_
          refine J_skip ?_
          exact ⟨⟨[], [Res.box b3 107 [.func (.yield ly0) #[] #[]], r24], fun h => sfc h ∧ Y (([] : List T) ++ pre ++ [y]) r24 h, ⟨fun hle z => ⟨smn.le hle z.1, (mY _ _).le hle z.2⟩⟩, []⟩, ⟨r24, rfl, fun h hf => ⟨(hres2 h hf.1).1, by rw [← List.append_assoc]; exact hf.2⟩⟩, Le.perm _ (List.Perm.swap _ _ _) (Le.mk trivial rfl rfl fun _ h => h)⟩
        · refine R_p (Wide.round ly) (P_not rfl) rfl rfl ?_
          refine JL_nil ?_
          refine J_ift rfl ?_
          refine J_ret ?_
          exact ⟨⟨[], [Res.box b3 107 [.func (.yield ly0) #[] #[]], r24], fun h => sfc h ∧ Z (([] : List T) ++ pre ++ [y]) r24 h, ⟨fun hle z => ⟨smn.le hle z.1, (mZ _ _).le hle z.2⟩⟩, []⟩, ⟨rfl, r24, rfl, fun h hf => ⟨_, ⟨_, (show fromT lo (T.node a nkv k l r0 dp mn) = [] ++ pre ++ [y] ++ (suf ++ [(T.node a nkv k l r0 dp mn)] ++ fromT lo r0) by rw [hFX, hxs]; simp).symm⟩, hf.2⟩⟩, Le.perm _ (List.Perm.swap _ _ _) (Le.mk trivial rfl rfl fun _ h => h)⟩
      · obtain ⟨r', hres, hres2⟩ := hT
        obtain ⟨ssl, sres, sfc, smn, sdf⟩ := S
        dsimp only at hres hres2 ⊢
        subst hres
        show J _ _ _ _ _ _
        refine J_pure (p := R' = []) (fun h hf => hf.2) fun hR => ?_
        subst hR
        refine J_facts (hG := ⟨fun hle z => ⟨Mono.le (F := Cp lv lo (T.node a nkv k l r0 dp mn) c2 c3) hle z.1, (mY _ _).le hle z.2⟩⟩) (fun h => Cp lv lo (T.node a nkv k l r0 dp mn) c2 c3 h ∧ Y (fromT lo l) r' h) (fun h hf => hres2 h hf.1) ?_
        refine J_res [Res.box b3 107 [.func (.yield ly0) #[] #[]], r', .obj D1 shut] rfl ?_
        refine J_rs ?_
        refine R_loadb Wide.wide 0 rfl rfl _ Try.underlying107 rfl rfl rfl ?_
        refine R_load Wide.wide rfl _ Try.underlying64 rfl rfl (fun h hf => RdC.of_cells (cs := [(T.node a nkv k l r0 dp mn).ptr]) hf.1.1 0 _ rfl) ?_
        refine R_yieldY (.inl rfl) mY mZ hy (pre := fromT lo l) (x := (T.node a nkv k l r0 dp mn)) (suf := fromT lo r0) (by rw [hFX]; simp) rfl rfl (List.Perm.swap _ _ _) (fun h hf => hf.2) rfl (fun r28 => ?_) (fun r28 => ?_)
        · refine R_p Wide.wide (P_not rfl) rfl rfl ?_
          refine JL_nil ?_
          refine J_iff rfl ?_
          refine J_skip ?_
          show J _ _ _ _ _ _
          refine J_ds Wide.wide 6 [(5, fun _ u h => ∃ b2 b3, u = .func (.func 52) #[] [.pointer (some ⟨b2, 0, none⟩), .pointer (some ⟨b3, 0, none⟩)].toArray ∧ Cp lv lo r0 b2 b3 h)] rfl (by kernel_rfl) ?_
          refine G_load rfl _ Try.underlying64 rfl rfl rfl (fun h hf hg => RdC.of_cells (cs := [(T.node a nkv k l r0 dp mn).ptr]) hf.1.1.1 0 _ rfl) ?_
          refine G_p (P_nil rfl) rfl rfl ?_
          refine G_p (P_fieldAddr rfl Try.underlying88 rfl Try.type64 rfl rfl) rfl rfl ?_
          refine G_load rfl _ Try.underlying64 rfl rfl rfl (fun h hf hg => IsT.cell hf.1.1.2.2.1 3 rfl) ?_
          refine G_load rfl _ Try.underlying49 rfl rfl rfl (fun h hf hg => RdC.of_cells (cs := [lv]) hf.1.1.2.1 0 _ rfl) ?_
          refine G_fn Try.call41 rfl (c41 (t := r0) (lv := lv) (lo := lo)) (fun h hf hg => ⟨hf.1.1.2.2.1.2.2.2, hf.1.1.2.2.2⟩) rfl (fun _ _ z => z) (fun _ => inferInstance) rfl (fun v35 => ?_)
          refine G_nil ?_
          refine JL_nil ?_
          refine J_block ?_
          refine J_ex (fun (p : Nat × Nat) h => v35 = .func (.func 52) #[] [.pointer (some ⟨p.1, 0, none⟩), .pointer (some ⟨p.2, 0, none⟩)].toArray ∧ Cp lv lo r0 p.1 p.2 h) (fun _ => inferInstance) (fun h hf => let ⟨x2, x3, e⟩ := hf.2.1; ⟨(x2, x3), e⟩) ?_
          rintro ⟨d2, d3⟩
          refine J_pure (fun h hf => hf.2.1) fun ee => ?_
          subst ee
          refine J_facts (hG := ⟨fun hle z => ⟨⟨Mono.le (F := Cp lv lo (T.node a nkv k l r0 dp mn) c2 c3) hle z.1.1, (mY _ _).le hle z.1.2⟩, Mono.le (F := Cp lv lo r0 d2 d3) hle z.2⟩⟩) (fun h => (Cp lv lo (T.node a nkv k l r0 dp mn) c2 c3 h ∧ Y (fromT lo l ++ [(T.node a nkv k l r0 dp mn)]) r28 h) ∧ Cp lv lo r0 d2 d3 h) (fun h hf => ⟨⟨hf.1.1.1.1, hf.1.1.2⟩, hf.2.2⟩) ?_
          refine J_perm [Res.box b3 107 [.func (.yield ly0) #[] #[]], r28, .obj D1 shut] (List.Perm.swap _ _ _) ?_
          refine J_range (gf := 52) (lb := [.pointer (some ⟨d2, 0, none⟩), .pointer (some ⟨d3, 0, none⟩)]) (encs := fun x : T => [x.ptr]) (xs := fromT lo r0) (Rit := []) rfl Try.call52 (ir (b2 := d2) (b3 := d3)) (fun _ => inferInstance) (List.Perm.refl _) (fun h hf => hf.2) (fun _ => rfl) rfl
            (fun pre S => ∃ r', S.res = [Res.box b3 107 [.func (.yield ly0) #[] #[]], r', .obj D1 shut] ∧ ∀ h, S.facts h → Cp lv lo (T.node a nkv k l r0 dp mn) c2 c3 h ∧ Y ((fromT lo l ++ [(T.node a nkv k l r0 dp mn)]) ++ pre) r' h) (fun c pre S => c = .ret ∧ ∃ r', S.res = [Res.box b3 107 [.func (.yield ly0) #[] #[]], r', .obj D1 shut] ∧ ∀ h, S.facts h → ∃ pre', pre' <+: fromT lo (T.node a nkv k l r0 dp mn) ∧ Z pre' r' h) ⟨r28, rfl, fun h hf => ⟨hf.1.1, by rw [List.append_nil]; exact hf.1.2⟩⟩ (fun W h M ly E E' pre y suf S hxs hT => ?_) (fun S D2 R' hT hx => ?_) (fun S D2 c pre hpre hX => ?_)
          · obtain ⟨r', hres, hres2⟩ := hT
            obtain ⟨ssl, sres, sfc, smn, sdf⟩ := S
            dsimp only at hres hres2 ⊢
            subst hres
            refine J_region ?_
            refine R_p (Wide.round ly) (P_assign rfl) rfl rfl ?_
            refine JL_nil ?_
            refine ⟨rfl, rfl, [Res.box b3 107 [.func (.yield ly0) #[] #[]], r', .obj D1 shut], rfl, ?_⟩
            refine J_block ?_
            refine J_rs ?_
            refine R_loadb (Wide.round ly) 0 rfl rfl _ Try.underlying107 rfl rfl rfl ?_
            refine R_p (Wide.round ly) (P_move rfl) rfl rfl ?_
            refine R_yieldY (.inr ⟨_, rfl⟩) mY mZ hy (pre := (fromT lo l ++ [(T.node a nkv k l r0 dp mn)]) ++ pre) (x := y) (suf := suf) (by rw [hFX, hxs]; simp) rfl rfl (List.Perm.swap _ _ _) (fun h hf => (hres2 h hf).2) rfl (fun r39 => ?_) (fun r39 => ?_)
            · refine R_p (Wide.round ly) (P_not rfl) rfl rfl ?_
              refine JL_nil ?_
              refine J_iff rfl ?_
              refine J_skip ?_
              exact ⟨⟨[], [Res.box b3 107 [.func (.yield ly0) #[] #[]], r39, .obj D1 shut], fun h => sfc h ∧ Y ((fromT lo l ++ [(T.node a nkv k l r0 dp mn)]) ++ pre ++ [y]) r39 h, ⟨fun hle z => ⟨smn.le hle z.1, (mY _ _).le hle z.2⟩⟩, []⟩, ⟨r39, rfl, fun h hf => ⟨(hres2 h hf.1).1, by rw [← List.append_assoc]; exact hf.2⟩⟩, Le.perm _ (List.Perm.swap _ _ _) (Le.mk trivial rfl rfl fun _ h => h)⟩
            · refine R_p (Wide.round ly) (P_not rfl) rfl rfl ?_
              refine JL_nil ?_
              refine J_ift rfl ?_
              refine J_ret ?_
              exact ⟨⟨[], [Res.box b3 107 [.func (.yield ly0) #[] #[]], r39, .obj D1 shut], fun h => sfc h ∧ Z ((fromT lo l ++ [(T.node a nkv k l r0 dp mn)]) ++ pre ++ [y]) r39 h, ⟨fun hle z => ⟨smn.le hle z.1, (mZ _ _).le hle z.2⟩⟩, []⟩, ⟨rfl, r39, rfl, fun h hf => ⟨_, ⟨_, (show fromT lo (T.node a nkv k l r0 dp mn) = (fromT lo l ++ [(T.node a nkv k l r0 dp mn)]) ++ pre ++ [y] ++ suf by rw [hFX, hxs]; simp).symm⟩, hf.2⟩⟩, Le.perm _ (List.Perm.swap _ _ _) (Le.mk trivial rfl rfl fun _ h => h)⟩
          · obtain ⟨r', hres, hres2⟩ := hT
            obtain ⟨ssl, sres, sfc, smn, sdf⟩ := S
            dsimp only at hres hres2 ⊢
            subst hres
            show FinM _ _ _ _ _
            obtain ⟨_, _, rfl⟩ := hx
            have hR0 : ([Res.box b3 107 [.func (.yield ly0) #[] #[]], r', .obj D1 shut] ++ [] ++ [Res.obj D2 shut]).Perm ([D2, D1].map (fun D => Res.obj D shut) ++ [Res.box b3 107 [.func (.yield ly0) #[] #[]], r']) := ((List.perm_append_comm (l₁ := [Res.box b3 107 [.func (.yield ly0) #[] #[]], r']) (l₂ := [Res.obj D1 shut, .obj D2 shut])).trans (List.Perm.swap _ _ _))
            refine FinM.cons _ (.inr rfl) [D2, D1] (res' := [Res.box b3 107 [.func (.yield ly0) #[] #[]], r']) (R' := [r']) [Res.box b3 107 [.func (.yield ly0) #[] #[]]] rfl (by have e := hR0 ; exact e) (List.Perm.swap _ _ []) (Reads.none rfl) fun h hf => ⟨r', [], rfl, .inl ⟨by rw [hFX]; exact (hres2 h hf.1).2, rfl⟩⟩
          · obtain ⟨rfl, r', hres, hres2⟩ := hX
            obtain ⟨ssl, sres, sfc, smn, sdf⟩ := S
            dsimp only at hres hres2 ⊢
            subst hres
            exact J_ret (FinM.cons _ (.inl rfl) [D2, D1] (res' := [Res.box b3 107 [.func (.yield ly0) #[] #[]], r']) (R' := [r']) [Res.box b3 107 [.func (.yield ly0) #[] #[]]] rfl ((List.perm_append_comm (l₁ := [Res.box b3 107 [.func (.yield ly0) #[] #[]], r']) (l₂ := [Res.obj D1 shut, .obj D2 shut])).trans (List.Perm.swap _ _ _)) (List.Perm.swap _ _ []) (Reads.none rfl) fun h hf => ⟨r', [], rfl, .inr (hres2 h hf)⟩)
        · refine R_p Wide.wide (P_not rfl) rfl rfl ?_
          refine JL_nil ?_
          refine J_ift rfl ?_
          refine J_ret ?_
          exact FinM.cons _ (.inl rfl) [D1] (res' := [r28, Res.box b3 107 [.func (.yield ly0) #[] #[]]]) (R' := [r28]) [Res.box b3 107 [.func (.yield ly0) #[] #[]]] rfl (List.perm_append_comm (l₁ := [r28, Res.box b3 107 [.func (.yield ly0) #[] #[]]]) (l₂ := [Res.obj D1 shut])) (List.Perm.refl _) (Reads.none rfl) fun h hf => ⟨r28, [], rfl, .inr ⟨_, ⟨_, hFX.symm⟩, hf.2⟩⟩
      · obtain ⟨rfl, r', hres, hres2⟩ := hX
        obtain ⟨ssl, sres, sfc, smn, sdf⟩ := S
        dsimp only at hres hres2 ⊢
        subst hres
        exact J_ret (FinM.cons _ (.inl rfl) [D1] (res' := [Res.box b3 107 [.func (.yield ly0) #[] #[]], r']) (R' := [r']) [Res.box b3 107 [.func (.yield ly0) #[] #[]]] rfl (List.perm_append_comm (l₁ := [Res.box b3 107 [.func (.yield ly0) #[] #[]], r']) (l₂ := [Res.obj D1 shut])) (List.Perm.swap _ _ []) (Reads.none rfl) fun h hf => ⟨r', [], rfl, .inr (hres2 h hf)⟩)
    · refine J_skip ?_
      show J _ _ _ _ _ _
      have hFY : fromT lo (T.node a nkv k l r0 dp mn) = fromT lo r0 := by simp only [fromT]; rw [if_neg (of_decide_eq_false hb14), List.nil_append]
      refine J_ds Wide.wide 6 [(5, fun _ u h => ∃ b2 b3, u = .func (.func 52) #[] [.pointer (some ⟨b2, 0, none⟩), .pointer (some ⟨b3, 0, none⟩)].toArray ∧ Cp lv lo r0 b2 b3 h)] rfl (by kernel_rfl) ?_
      refine G_load rfl _ Try.underlying64 rfl rfl rfl (fun h hf hg => RdC.of_cells (cs := [(T.node a nkv k l r0 dp mn).ptr]) hf.1.1 0 _ rfl) ?_
      refine G_p (P_nil rfl) rfl rfl ?_
      refine G_p (P_fieldAddr rfl Try.underlying88 rfl Try.type64 rfl rfl) rfl rfl ?_
      refine G_load rfl _ Try.underlying64 rfl rfl rfl (fun h hf hg => IsT.cell hf.1.2.2.1 3 rfl) ?_
      refine G_load rfl _ Try.underlying49 rfl rfl rfl (fun h hf hg => RdC.of_cells (cs := [lv]) hf.1.2.1 0 _ rfl) ?_
      refine G_fn Try.call41 rfl (c41 (t := r0) (lv := lv) (lo := lo)) (fun h hf hg => ⟨hf.1.2.2.1.2.2.2, hf.1.2.2.2⟩) rfl (fun _ _ z => z) (fun _ => inferInstance) rfl (fun v35 => ?_)
      refine G_nil ?_
      refine JL_nil ?_
      refine J_block ?_
      refine J_ex (fun (p : Nat × Nat) h => v35 = .func (.func 52) #[] [.pointer (some ⟨p.1, 0, none⟩), .pointer (some ⟨p.2, 0, none⟩)].toArray ∧ Cp lv lo r0 p.1 p.2 h) (fun _ => inferInstance) (fun h hf => let ⟨x2, x3, e⟩ := hf.2.1; ⟨(x2, x3), e⟩) ?_
      rintro ⟨d2, d3⟩
      refine J_pure (fun h hf => hf.2.1) fun ee => ?_
      subst ee
      refine J_facts (hG := ⟨fun hle z => ⟨⟨Mono.le (F := Cp lv lo (T.node a nkv k l r0 dp mn) c2 c3) hle z.1.1, (mY _ _).le hle z.1.2⟩, Mono.le (F := Cp lv lo r0 d2 d3) hle z.2⟩⟩) (fun h => (Cp lv lo (T.node a nkv k l r0 dp mn) c2 c3 h ∧ Y ([] : List T) r h) ∧ Cp lv lo r0 d2 d3 h) (fun h hf => ⟨hf.1.1, hf.2.2⟩) ?_
      refine J_perm [Res.box b3 107 [.func (.yield ly0) #[] #[]], r] (List.Perm.refl _) ?_
      refine J_range (gf := 52) (lb := [.pointer (some ⟨d2, 0, none⟩), .pointer (some ⟨d3, 0, none⟩)]) (encs := fun x : T => [x.ptr]) (xs := fromT lo r0) (Rit := []) rfl Try.call52 (ir (b2 := d2) (b3 := d3)) (fun _ => inferInstance) (List.Perm.refl _) (fun h hf => hf.2) (fun _ => rfl) rfl
        (fun pre S => ∃ r', S.res = [Res.box b3 107 [.func (.yield ly0) #[] #[]], r'] ∧ ∀ h, S.facts h → Cp lv lo (T.node a nkv k l r0 dp mn) c2 c3 h ∧ Y (([] : List T) ++ pre) r' h) (fun c pre S => c = .ret ∧ ∃ r', S.res = [Res.box b3 107 [.func (.yield ly0) #[] #[]], r'] ∧ ∀ h, S.facts h → ∃ pre', pre' <+: fromT lo (T.node a nkv k l r0 dp mn) ∧ Z pre' r' h) ⟨r, rfl, fun h hf => ⟨hf.1.1, by rw [List.append_nil]; exact hf.1.2⟩⟩ (fun W h M ly E E' pre y suf S hxs hT => ?_) (fun S D3 R' hT hx => ?_) (fun S D3 c pre hpre hX => ?_)
      · obtain ⟨r', hres, hres2⟩ := hT
        obtain ⟨ssl, sres, sfc, smn, sdf⟩ := S
        dsimp only at hres hres2 ⊢
        subst hres
        refine J_region ?_
        refine R_p (Wide.round ly) (P_assign rfl) rfl rfl ?_
        refine JL_nil ?_
        refine ⟨rfl, rfl, [Res.box b3 107 [.func (.yield ly0) #[] #[]], r'], rfl, ?_⟩
        refine J_block ?_
        refine J_rs ?_
        refine R_loadb (Wide.round ly) 0 rfl rfl _ Try.underlying107 rfl rfl rfl ?_
        refine R_p (Wide.round ly) (P_move rfl) rfl rfl ?_
        refine R_yieldY (.inr ⟨_, rfl⟩) mY mZ hy (pre := ([] : List T) ++ pre) (x := y) (suf := suf) (by rw [hFY, hxs]; simp) rfl rfl (List.Perm.swap _ _ _) (fun h hf => (hres2 h hf).2) rfl (fun r39 => ?_) (fun r39 => ?_)
        · refine R_p (Wide.round ly) (P_not rfl) rfl rfl ?_
          refine JL_nil ?_
          refine J_iff rfl ?_
          refine J_skip ?_
          exact ⟨⟨[], [Res.box b3 107 [.func (.yield ly0) #[] #[]], r39], fun h => sfc h ∧ Y (([] : List T) ++ pre ++ [y]) r39 h, ⟨fun hle z => ⟨smn.le hle z.1, (mY _ _).le hle z.2⟩⟩, []⟩, ⟨r39, rfl, fun h hf => ⟨(hres2 h hf.1).1, by rw [← List.append_assoc]; exact hf.2⟩⟩, Le.perm _ (List.Perm.swap _ _ _) (Le.mk trivial rfl rfl fun _ h => h)⟩
        · refine R_p (Wide.round ly) (P_not rfl) rfl rfl ?_
          refine JL_nil ?_
          refine J_ift rfl ?_
          refine J_ret ?_
          exact ⟨⟨[], [Res.box b3 107 [.func (.yield ly0) #[] #[]], r39], fun h => sfc h ∧ Z (([] : List T) ++ pre ++ [y]) r39 h, ⟨fun hle z => ⟨smn.le hle z.1, (mZ _ _).le hle z.2⟩⟩, []⟩, ⟨rfl, r39, rfl, fun h hf => ⟨_, ⟨_, (show fromT lo (T.node a nkv k l r0 dp mn) = [] ++ pre ++ [y] ++ suf by rw [hFY, hxs]; simp).symm⟩, hf.2⟩⟩, Le.perm _ (List.Perm.swap _ _ _) (Le.mk trivial rfl rfl fun _ h => h)⟩
      · obtain ⟨r', hres, hres2⟩ := hT
        obtain ⟨ssl, sres, sfc, smn, sdf⟩ := S
        dsimp only at hres hres2 ⊢
        subst hres
        show FinM _ _ _ _ _
        obtain ⟨_, _, rfl⟩ := hx
        have hR0 : ([Res.box b3 107 [.func (.yield ly0) #[] #[]], r'] ++ [] ++ [Res.obj D3 shut]).Perm ([D3].map (fun D => Res.obj D shut) ++ [Res.box b3 107 [.func (.yield ly0) #[] #[]], r']) := (List.perm_append_comm (l₁ := [Res.box b3 107 [.func (.yield ly0) #[] #[]], r']) (l₂ := [Res.obj D3 shut]))
        refine FinM.cons _ (.inr rfl) [D3] (res' := [Res.box b3 107 [.func (.yield ly0) #[] #[]], r']) (R' := [r']) [Res.box b3 107 [.func (.yield ly0) #[] #[]]] rfl (by have e := hR0 ; exact e) (List.Perm.swap _ _ []) (Reads.none rfl) fun h hf => ⟨r', [], rfl, .inl ⟨by rw [hFY]; exact (hres2 h hf.1).2, rfl⟩⟩
      · obtain ⟨rfl, r', hres, hres2⟩ := hX
        obtain ⟨ssl, sres, sfc, smn, sdf⟩ := S
        dsimp only at hres hres2 ⊢
        subst hres
        exact J_ret (FinM.cons _ (.inl rfl) [D3] (res' := [Res.box b3 107 [.func (.yield ly0) #[] #[]], r']) (R' := [r']) [Res.box b3 107 [.func (.yield ly0) #[] #[]]] rfl (List.perm_append_comm (l₁ := [Res.box b3 107 [.func (.yield ly0) #[] #[]], r']) (l₂ := [Res.obj D3 shut])) (List.Perm.swap _ _ []) (Reads.none rfl) fun h hf => ⟨r', [], rfl, .inr (hres2 h hf)⟩)

end Go.Proofs.Ytgheodbcgddjlaa
