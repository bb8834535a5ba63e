/- Walks: a prefix that is one; the datoms of a view. -/
import Derived.Test.YtgheodbcgddjlaaW20
set_option linter.unusedVariables false
set_option linter.unusedSimpArgs false
namespace Go.Hl
open Go.RowKit Go.Grow Go.Ix
theorem R_say {F : Fence} {P : Program} {C : Ctx} {ops : Array Oper} {l : List Oper} {K : St → Prop} {sl : List (Nat × Value)} {res : List Res} {fc : Hp → Prop} {mn : Mono fc} {df : List Deferred} {t : Tmp} {u v : Value} (hb : lk sl t = some u) (e : u = v) (k : JL F P C ops ⟨(t, v) :: sl, res, fc, mn, df⟩ l K) : JL F P C ops ⟨sl, res, fc, mn, df⟩ l K := JL_say hb e k
end Go.Hl
namespace Go.Ix
def inView (a s : Int) (d : D) : Bool := decide (s < d.t) && (decide (a = 0) || decide (d.t ≤ a))
end Go.Ix
namespace Go.Proofs.Ytgheodbcgddjlaa
open Go.RowKit Go.Grow Go.Hl Go.Ix

set_option maxRecDepth 100000 in
theorem c18 {x : Int} {lv : Value} {ps : List Pt} (ho : isO x = true) (hne : 0 < ps.length) (hn : ps.length ≤ 4) (hk : ∀ (i : Nat) (q : Pt), ps[i]? = some q → (partsL x D0)[i]?.map Pt.b = some q.b) (hok : ps.all okP = true) (hs : ∀ p ∈ ps, p.v.s.length ≤ 1000000) : FnC Try.prog 18 [.int .i64 x, lv].toArray (fun h => RdP h lv ps) (fun u h => ∃ w, u = .tuple #[w, .int .i64 0] ∧ Bs h w (keyL ps)) := by
  refine ct_of_JM (R := []) Try.func18 rfl inferInstance 39 Try.ntmps18 (Nat.le_of_ble_eq_true rfl) fun W0 h0 => ?_
  refine J_rdform (v := lv) (n := ps.length) (xs := ps.flatMap Pt.cells) (fun h hf => hf) (fun _ h1 _ => by omega) (fun bl ol cl e0 hcl => ?_)
  subst e0
  refine J_rs ?_
  refine R_box Wide.wide rfl rfl rfl (fun b3 => ?_)
  refine R_alloc Wide.wide Try.type49 rfl rfl rfl (fun b4 => ?_)
  refine R_alloc Wide.wide Try.type26 rfl rfl rfl (fun b5 => ?_)
  refine JL_nil ?_
  refine J_seq ?_
  refine J_rs ?_
  refine R_p Wide.wide (P_move rfl) rfl rfl ?_
  refine R_fv Wide.wide Try.call20 rfl c20 (fun h hf => trivial) rfl ?_
  refine R_p Wide.wide (P_not rfl) rfl rfl ?_
  refine R_p Wide.wide (P_move rfl) rfl rfl ?_
  refine R_say (t := 11) (v := .bool false) rfl (by rw [ho]; rfl) ?_
  refine R_gy rfl rfl ?_
  refine R_loadb Wide.wide 2 rfl rfl _ Try.underlying39 rfl rfl rfl ?_
  refine R_gy rfl rfl ?_
  refine R_p Wide.wide (P_len rfl rfl Try.underlying39) rfl rfl ?_
  refine R_gy rfl rfl ?_
  refine R_p Wide.wide (P_gtr rfl rfl) rfl rfl ?_
  refine R_p Wide.wide (P_pickf rfl rfl) rfl rfl ?_
  refine JL_nil ?_
  refine J_iff (congrArg some (congrArg Value.bool (decide_eq_false (by omega)))) ?_
  refine J_skip ?_
  show J _ _ _ _ _ _
  refine J_seq ?_
  refine J_rs ?_
  refine R_p Wide.wide (P_move rfl) rfl rfl ?_
  refine R_p Wide.wide (P_build [1, 1, 3, 1, 1, 1, 1] Try.underlying43 Try.type43 rfl rfl (ivs := []) (cs := D0.cells) rfl rfl) rfl rfl ?_
  refine R_fn Wide.wide Try.call34 rfl (c34 (d := D0)) (fun h hf => trivial) (fun _ => inferInstance) rfl (fun v18 => ?_)
  refine JL_ex (fun (p : Nat × Nat) h => v18 = .func (.func 44) #[] [.pointer (some ⟨p.1, 0, none⟩), .pointer (some ⟨p.2, 0, none⟩)].toArray ∧ h p.1 = some (.cells #[.int .i64 x] 3 (0, 0)) ∧ h p.2 = some (.cells (D.cells D0).toArray 43 (0, 0))) (fun _ => inferInstance) (fun h hf => let ⟨b2, b3, e⟩ := hf.2; ⟨(b2, b3), e⟩) ?_
  rintro ⟨c2, c3⟩
  refine JL_fact (fun h hf => hf.2.1) fun e18 => ?_
  subst e18
  refine JL_nil ?_
  refine J_block ?_
  refine J_range (gf := 44) (lb := [.pointer (some ⟨c2, 0, none⟩), .pointer (some ⟨c3, 0, none⟩)]) (encs := encP2) (xs := (partsL x D0).zipIdx) (Rit := []) rfl Try.call44 (c44 (d := D0)) (fun _ => inferInstance) (List.Perm.refl _) (fun h hf => ⟨hf.2.2.1, hf.2.2.2⟩) (fun _ => rfl) rfl
    (fun pre S => S.res = [.box b5 26 [.int .i64 0], .box b4 49 [.slice none 0 0], .box b3 39 [.slice (some ⟨bl, ol, none⟩) ps.length cl]] ∧ ∀ h, S.facts h → RdC h bl ol (ps.flatMap Pt.cells)) (fun _ _ _ => False) ⟨rfl, fun h hf => hf.1.1.2⟩ (fun W h M ly E E' pre y suf S hxs hT => ?_) (fun S Df R' hT hx => ?_) (fun S Df c pre hpre hX => ?_)
  · obtain ⟨hres, hfc⟩ := hT
    obtain ⟨ssl, sres, sfc, smn, sdf⟩ := S
    dsimp only at hres hfc ⊢
    subst hres
    obtain ⟨p, i⟩ := y
    have hp : (partsL x D0)[i]? = some p := by
      have h1 : (p, i) ∈ (partsL x D0).zipIdx := by rw [hxs]; simp
      exact List.mem_zipIdx_iff_getElem?.1 h1
    have hgq : i < ps.length → ps[i]? = some (ps.getD i (pn 0)) := fun h1 => by rw [List.getD_eq_getElem?_getD, List.getElem?_eq_getElem h1]; rfl
    have hnq : i < ps.length → ((ps.getD i (pn 0)).b != p.b) = false := fun h1 => by
      have h2 := hk i _ (hgq h1)
      rw [hp] at h2
      simp only [Option.map_some, Option.some.injEq] at h2
      rw [h2]; simp
    refine J_rs ?_
    refine R_p (Wide.round ly) (P_assign rfl) rfl rfl ?_
    refine JL_nil ?_
    refine J_region ?_
    refine R_alloc (Wide.round ly) Try.type38 rfl rfl rfl (fun b7 => ?_)
    refine R_store (Wide.round ly) 0 rfl rfl rfl rfl Try.type38 rfl (Nat.le_of_ble_eq_true rfl) rfl rfl rfl ?_
    refine JL_nil ?_
    refine ⟨rfl, rfl, [.box b7 38 p.cells, .box b5 26 [.int .i64 0], .box b4 49 [.slice none 0 0], .box b3 39 [.slice (some ⟨bl, ol, none⟩) ps.length cl]], rfl, ?_⟩
    refine J_block ?_
    refine J_ds (Wide.round ly) 14 [] rfl (by kernel_rfl) ?_
    refine G_p (P_move rfl) rfl rfl ?_
    refine G_loadb 3 rfl rfl _ Try.underlying39 rfl rfl rfl rfl ?_
    refine G_p (P_len rfl rfl Try.underlying39) rfl rfl ?_
    refine G_p (P_lss rfl rfl) rfl rfl ?_
    refine G_p (P_move rfl) rfl rfl ?_
    refine G_gd rfl rfl rfl (fun hb25 => ?_) (fun hb25 => ?_)
    · refine G_loadb 3 rfl rfl _ Try.underlying39 rfl rfl rfl rfl ?_
      refine G_gy rfl rfl ?_
      refine G_p (P_move rfl) rfl rfl ?_
      refine G_gy rfl rfl ?_
      refine G_p (P_indexAddr (i := i) rfl rfl Try.underlying39 Try.type38 rfl (by have := of_decide_eq_true hb25; omega)) rfl rfl ?_
      refine G_gy rfl rfl ?_
      refine G_p (P_fieldAddr rfl Try.underlying38 rfl Try.type4 rfl rfl) rfl rfl ?_
      refine G_gy rfl rfl ?_
      refine G_load rfl _ Try.underlying4 rfl rfl rfl (fun h hf hg => RdC.elem (hfc h hf) Pt.cells_length (hgq (by have := of_decide_eq_true hb25; omega)) 0 _ rfl) ?_
      refine G_gy rfl rfl ?_
      refine G_p (P_fieldAddr rfl Try.underlying38 rfl Try.type4 rfl rfl) rfl rfl ?_
      refine G_gy rfl rfl ?_
      refine G_loadb 0 rfl rfl _ Try.underlying4 rfl rfl rfl rfl ?_
      refine G_gy rfl rfl ?_
      refine G_p (P_neb rfl rfl Try.underlying4) rfl rfl ?_
      refine G_p (P_pickt rfl rfl) rfl rfl ?_
      refine G_nil0 ?_
      refine JL_nil ?_
      refine J_iff (congrArg some (congrArg Value.bool (hnq (by have := of_decide_eq_true hb25; omega)))) ?_
      refine J_skip ?_
      exact ⟨⟨[], [.box b5 26 [.int .i64 0], .box b4 49 [.slice none 0 0], .box b3 39 [.slice (some ⟨bl, ol, none⟩) ps.length cl]], sfc, smn, []⟩, ⟨rfl, hfc⟩, Le.drop 0 (Le.mk trivial rfl rfl fun _ h => h)⟩
    · refine G_gn rfl rfl rfl rfl ?_
      refine G_gn rfl rfl rfl rfl ?_
      refine G_gn rfl rfl rfl rfl ?_
      refine G_gn rfl rfl rfl rfl ?_
      refine G_gn rfl rfl rfl rfl ?_
      refine G_gn rfl rfl rfl rfl ?_
      refine G_gn rfl rfl rfl rfl ?_
      refine G_p (P_pickf rfl rfl) rfl rfl ?_
      refine G_nil0 ?_
      refine JL_nil ?_
      refine J_iff rfl ?_
      refine J_skip ?_
      exact ⟨⟨[], [.box b5 26 [.int .i64 0], .box b4 49 [.slice none 0 0], .box b3 39 [.slice (some ⟨bl, ol, none⟩) ps.length cl]], sfc, smn, []⟩, ⟨rfl, hfc⟩, Le.drop 0 (Le.mk trivial rfl rfl fun _ h => h)⟩
  · obtain ⟨hres, hfc⟩ := hT
    obtain ⟨ssl, sres, sfc, smn, sdf⟩ := S
    dsimp only at hres hfc ⊢
    subst hres
    show J _ _ _ _ _ _
    refine J_pure (p := R' = []) (fun h hf => hf.2) fun hR => ?_
    subst hR
    refine J_rs ?_
    refine R_loadb Wide.wide 2 rfl rfl _ Try.underlying39 rfl rfl rfl ?_
    refine R_fn Wide.wide Try.call22 rfl (c22 (ps := ps) (by omega) hs) (fun h hf => .inr ⟨bl, ol, cl, rfl, hcl, hfc h hf.1⟩) (fun _ => inferInstance) rfl (fun v36 => ?_)
    refine JL_ex (fun (w : Value) h => v36 = .tuple #[w, .int .i64 0] ∧ Bs h w (keyL ps)) (fun _ => inferInstance) (fun h hf => by have h1 := hf.2; rw [hok] at h1; exact h1) fun w36 => ?_
    refine JL_fact (fun h hf => hf.2.1) fun e36 => ?_
    subst e36
    refine JL_fact (fun h hf => Rd.one hf.2.2) fun hw36 => ?_
    refine R_p Wide.wide (P_extract rfl rfl) rfl rfl ?_
    refine R_p Wide.wide (P_extract rfl rfl) rfl rfl ?_
    refine R_store Wide.wide 1 (vs := [w36]) (cs' := [w36]) rfl rfl rfl hw36.2.1 Try.type49 rfl (Nat.le_of_ble_eq_true rfl) (by simp [hw36.2.2]) rfl rfl ?_
    refine R_store Wide.wide 0 (vs := [.int .i64 0]) (cs' := [.int .i64 0]) rfl rfl rfl rfl Try.type26 rfl (Nat.le_of_ble_eq_true rfl) rfl rfl rfl ?_
    refine JL_nil ?_
    refine J_ret ?_
    refine FinM.cons _ (.inl rfl) [Df] (res' := [.box b5 26 [.int .i64 0], .box b4 49 [w36], .box b3 39 [.slice (some ⟨bl, ol, none⟩) ps.length cl]]) (R' := []) _ rfl (List.perm_append_comm (l₁ := ([.box b5 26 [.int .i64 0], .box b4 49 [w36], .box b3 39 [.slice (some ⟨bl, ol, none⟩) ps.length cl]] : List Res)) (l₂ := [Res.obj Df shut])) (List.Perm.refl _) (Reads.two rfl (RV.cell1 1 (t := 49) (v := w36) _ rfl rfl Try.underlying49 rfl) (RV.cell1 0 (t := 26) (v := .int .i64 0) _ rfl rfl Try.underlying26 rfl)) fun h hf => ⟨rfl, w36, rfl, hf.2.2⟩
  · exact hX.elim

set_option maxRecDepth 100000 in
theorem c11 {x a s va : Int} {ab hi : Bool} {xv lv : Value} {ts : Nat → T} {ps : List Pt} (ho : isO x = true) (hne : 0 < ps.length) (hn : ps.length ≤ 4) (hk : ∀ (i : Nat) (q : Pt), ps[i]? = some q → (partsL x D0)[i]?.map Pt.b = some q.b) (hok : ps.all okP = true) (hs : ∀ p ∈ ps, p.v.s.length ≤ 1000000) (ha : 0 ≤ a ∧ a ≤ 1099511627776) (hsi : 0 ≤ s ∧ s ≤ 1099511627776) (hcnt : (ts x.toNat).sh.cnt ≤ 200000) (hkl : ∀ y ∈ fromT (keyL ps) (ts x.toNat), y.key.length ≤ 1000000) : FnC Try.prog 11 [xv, .int .i64 x, lv, .agg [.int .i64 a, .int .i64 s, .int .i64 va, .bool ab, .bool hi].toArray].toArray (fun h => Ixp h xv ts ∧ RdP h lv ps) (fun u h => ∃ w, u = .tuple #[w, .int .i64 0] ∧ RdD h w ((beginL x (keyL ps) (ts x.toNat)).filter (inView a s))) := by
  refine ct_of_JM (R := []) Try.func11 rfl inferInstance 64 Try.ntmps11 (Nat.le_of_ble_eq_true rfl) fun W0 h0 => ?_
  have hox : 1 ≤ x ∧ x ≤ 4 := by simpa [isO] using ho
  refine J_rs ?_
  refine R_box Wide.wide rfl rfl rfl (fun b7 => ?_)
  refine R_p Wide.wide (P_assign rfl) rfl rfl ?_
  refine R_p Wide.wide (P_assign rfl) rfl rfl ?_
  refine JL_nil ?_
  refine J_rs ?_
  refine R_p Wide.wide (P_move rfl) rfl rfl ?_
  refine R_p Wide.wide (P_move rfl) rfl rfl ?_
  refine R_fn Wide.wide Try.call18 rfl (c18 (ps := ps) ho hne hn hk hok hs) (fun h hf => hf.2) (fun _ => inferInstance) rfl (fun v17 => ?_)
  refine JL_ex (fun (w : Value) h => v17 = .tuple #[w, .int .i64 0] ∧ Bs h w (keyL ps)) (fun _ => inferInstance) (fun h hf => hf.2) fun w17 => ?_
  refine JL_fact (fun h hf => hf.2.1) fun e17 => ?_
  subst e17
  refine R_p Wide.wide (P_move rfl) rfl rfl ?_
  refine R_p Wide.wide (P_extract rfl rfl) rfl rfl ?_
  refine R_p Wide.wide (P_extract rfl rfl) rfl rfl ?_
  refine R_p Wide.wide (P_assign rfl) rfl rfl ?_
  refine R_p Wide.wide (P_assign rfl) rfl rfl ?_
  refine JL_nil ?_
  refine J_seq ?_
  refine J_rs ?_
  refine R_p Wide.wide (P_move rfl) rfl rfl ?_
  refine R_p Wide.wide (P_nei rfl rfl) rfl rfl ?_
  refine JL_nil ?_
  refine J_iff rfl ?_
  refine J_skip ?_
  show J _ _ _ _ _ _
  refine J_seq ?_
  refine J_rs ?_
  refine R_p Wide.wide (P_fieldAddr rfl Try.underlying41 rfl Try.type2 rfl rfl) rfl rfl ?_
  refine R_loadb Wide.wide 0 rfl rfl _ Try.underlying2 rfl rfl rfl ?_
  refine R_p Wide.wide (P_fieldAddr rfl Try.underlying41 rfl Try.type2 rfl rfl) rfl rfl ?_
  refine R_loadb Wide.wide 0 rfl rfl _ Try.underlying2 rfl rfl rfl ?_
  refine R_p Wide.wide (P_min rfl rfl) rfl rfl ?_
  refine R_p Wide.wide (P_lss rfl rfl) rfl rfl ?_
  refine R_p Wide.wide (P_move rfl) rfl rfl ?_
  refine R_say (t := 29) (v := .bool false) rfl (congrArg Value.bool (decide_eq_false (by omega))) ?_
  refine R_gy rfl rfl ?_
  refine R_p Wide.wide (P_fieldAddr rfl Try.underlying41 rfl Try.type2 rfl rfl) rfl rfl ?_
  refine R_gy rfl rfl ?_
  refine R_loadb Wide.wide 0 rfl rfl _ Try.underlying2 rfl rfl rfl ?_
  refine R_gy rfl rfl ?_
  refine R_p Wide.wide (P_fieldAddr rfl Try.underlying41 rfl Try.type2 rfl rfl) rfl rfl ?_
  refine R_gy rfl rfl ?_
  refine R_loadb Wide.wide 0 rfl rfl _ Try.underlying2 rfl rfl rfl ?_
  refine R_gy rfl rfl ?_
  refine R_p Wide.wide (P_max rfl rfl) rfl rfl ?_
  refine R_gy rfl rfl ?_
  refine R_p Wide.wide (P_gtr rfl rfl) rfl rfl ?_
  refine R_p Wide.wide (P_pickf rfl rfl) rfl rfl ?_
  refine JL_nil ?_
  refine J_iff (congrArg some (congrArg Value.bool (decide_eq_false (by omega)))) ?_
  refine J_skip ?_
  show J _ _ _ _ _ _
  refine J_rs ?_
  refine R_alloc Wide.wide Try.type22 rfl rfl rfl (fun b12 => ?_)
  refine JL_nil ?_
  refine J_seq ?_
  refine J_rs ?_
  refine R_p Wide.wide (P_move rfl) rfl rfl ?_
  refine R_p Wide.wide (P_move rfl) rfl rfl ?_
  refine R_p Wide.wide (P_move rfl) rfl rfl ?_
  refine R_fn Wide.wide Try.call16 rfl (c16 (o := x) (ts := ts) (pre := keyL ps)) (fun h hf => ⟨hf.1.1.1, hf.2.2⟩) (fun _ => inferInstance) rfl (fun v40 => ?_)
  refine JL_ex (fun (q : Nat × Nat × Nat) h => v40 = .func (.func 30) #[] [.pointer (some ⟨q.1, 0, none⟩), .pointer (some ⟨q.2.1, 0, none⟩), .pointer (some ⟨q.2.2, 0, none⟩)].toArray ∧ Kx xv w17 x ts (keyL ps) q.1 q.2.1 q.2.2 h) (fun _ => inferInstance) (fun h hf => let ⟨a, b, c, e⟩ := hf.2; ⟨(a, b, c), e⟩) ?_
  rintro ⟨c1, c2, c3⟩
  refine JL_fact (fun h hf => hf.2.1) fun e40 => ?_
  subst e40
  refine JL_nil ?_
  refine J_block ?_
  refine J_ownnil 43 9 ?_
  refine J_range (gf := 30) (lb := [.pointer (some ⟨c1, 0, none⟩), .pointer (some ⟨c2, 0, none⟩), .pointer (some ⟨c3, 0, none⟩)]) (encs := fun d : D => [.agg d.cells.toArray]) (xs := beginL x (keyL ps) (ts x.toNat)) (Rit := []) rfl Try.call30 (c30 hox (by have := keyL_length (fun p hp => List.all_eq_true.1 hok p hp); omega) hcnt hkl) (fun _ => inferInstance) (List.Perm.refl _) (fun h hf => hf.2.2) (fun _ => rfl) rfl
    (fun pre S => ∃ w, S.res = [.own w 43 9 (pre.filter (inView a s)).length ((pre.filter (inView a s)).flatMap D.cells), .box b12 22 [w], .box b7 41 [.int .i64 a, .int .i64 s, .int .i64 va, .bool ab, .bool hi]]) (fun _ _ _ => False) ⟨.slice none 0 0, rfl⟩ (fun W h M ly E E' pre d suf S hxs hT => ?_) (fun S Df R' hT hx => ?_) (fun S Df c pre hpre hX => ?_)
  · obtain ⟨w, hres⟩ := hT
    obtain ⟨ssl, sres, sfc, smn, sdf⟩ := S
    dsimp only at hres ⊢
    subst hres
    have hlen' : (pre.filter (inView a s)).length < 1000000 := by
      have h1 := congrArg List.length hxs
      have h2 := List.length_filter_le (inView a s) pre
      have h3 := beginL_length x (keyL ps) (ts x.toNat)
      simp at h1; omega
    refine J_region ?_
    refine R_alloc (Wide.round ly) Try.type43 rfl rfl rfl (fun b13 => ?_)
    refine R_store (Wide.round ly) 0 rfl rfl rfl rfl Try.type43 rfl (Nat.le_of_ble_eq_true rfl) rfl rfl rfl ?_
    refine JL_nil ?_
    refine ⟨rfl, rfl, [.box b13 43 d.cells, .own w 43 9 (pre.filter (inView a s)).length ((pre.filter (inView a s)).flatMap D.cells), .box b12 22 [w], .box b7 41 [.int .i64 a, .int .i64 s, .int .i64 va, .bool ab, .bool hi]], rfl, ?_⟩
    refine J_block ?_
    refine J_rs ?_
    refine R_p (Wide.round ly) (P_fieldAddr rfl Try.underlying43 rfl Try.type2 rfl rfl) rfl rfl ?_
    refine R_loadb (Wide.round ly) 0 rfl rfl _ Try.underlying2 rfl rfl rfl ?_
    refine R_p (Wide.round ly) (P_fieldAddr rfl Try.underlying41 rfl Try.type2 rfl rfl) rfl rfl ?_
    refine R_loadb (Wide.round ly) 3 rfl rfl _ Try.underlying2 rfl rfl rfl ?_
    refine R_p (Wide.round ly) (P_gtr rfl rfl) rfl rfl ?_
    refine R_p (Wide.round ly) (P_move rfl) rfl rfl ?_
    refine R_gd (Wide.round ly) rfl rfl rfl (fun hb47 => ?_) (fun hb47 => ?_)
    · refine R_p (Wide.round ly) (P_fieldAddr rfl Try.underlying41 rfl Try.type2 rfl rfl) rfl rfl ?_
      refine R_gy rfl rfl ?_
      refine R_loadb (Wide.round ly) 3 rfl rfl _ Try.underlying2 rfl rfl rfl ?_
      refine R_gy rfl rfl ?_
      refine R_p (Wide.round ly) (P_eqi rfl rfl) rfl rfl ?_
      refine R_gy rfl rfl ?_
      refine R_p (Wide.round ly) (P_move rfl) rfl rfl ?_
      refine R_gd (Wide.round ly) rfl rfl rfl (fun hb51 => ?_) (fun hb51 => ?_)
      · refine R_p (Wide.round ly) (P_fieldAddr rfl Try.underlying43 rfl Try.type2 rfl rfl) rfl rfl ?_
        refine R_gy rfl rfl ?_
        refine R_loadb (Wide.round ly) 0 rfl rfl _ Try.underlying2 rfl rfl rfl ?_
        refine R_gy rfl rfl ?_
        refine R_p (Wide.round ly) (P_fieldAddr rfl Try.underlying41 rfl Try.type2 rfl rfl) rfl rfl ?_
        refine R_gy rfl rfl ?_
        refine R_loadb (Wide.round ly) 3 rfl rfl _ Try.underlying2 rfl rfl rfl ?_
        refine R_gy rfl rfl ?_
        refine R_p (Wide.round ly) (P_leq rfl rfl) rfl rfl ?_
        refine R_gy rfl rfl ?_
        refine R_p (Wide.round ly) (P_pickf rfl rfl) rfl rfl ?_
        refine R_p (Wide.round ly) (P_pickt rfl rfl) rfl rfl ?_
        refine JL_nil ?_
        refine J_ifs rfl (fun hb58 => ?_) (fun hb58 => ?_)
        · refine J_region ?_
          refine R_loadb (Wide.round ly) 2 rfl rfl _ Try.underlying22 rfl rfl rfl ?_
          refine R_loadbs (Wide.round ly) 0 (vs := d.cells) rfl rfl _ Try.underlying43 rfl Try.type43 rfl rfl rfl ?_
          refine R_bslice (Wide.round ly) Try.underlying22 Try.type43 rfl (ivs := [(0, .agg d.cells.toArray)]) rfl rfl rfl rfl (fun b61 => ?_)
          refine R_append (Wide.round ly) 2 rfl rfl rfl Try.underlying22 Try.type43 rfl rfl rfl rfl (Src.box0 0 rfl) rfl rfl (by omega) rfl rfl (fun v62 => ?_)
          refine JL_own1 2 rfl (fun h62 g62 => ?_)
          refine R_store (Wide.round ly) 3 (vs := [v62]) rfl rfl rfl h62 Try.type22 rfl (Nat.le_of_ble_eq_true rfl) (by simp [g62]) rfl rfl ?_
          refine JL_nil ?_
          have hfil : (pre ++ [d]).filter (inView a s) = (pre.filter (inView a s)) ++ [d] := by rw [List.filter_append]; have h1 := of_decide_eq_true hb47; have h2 := of_decide_eq_true hb58; simp [inView, h1, h2]
          exact ⟨⟨[], [.own v62 43 9 ((pre.filter (inView a s)).length + 1) ((pre.filter (inView a s)).flatMap D.cells ++ d.cells), .box b12 22 [v62], .box b7 41 [.int .i64 a, .int .i64 s, .int .i64 va, .bool ab, .bool hi]], sfc, smn, []⟩, ⟨v62, by rw [hfil]; simp⟩, Le.drop 0 (Le.drop 0 (Le.mk trivial rfl rfl fun _ h => h))⟩
        · refine J_skip ?_
          have hfil : (pre ++ [d]).filter (inView a s) = (pre.filter (inView a s)) := by rw [List.filter_append]; have h2 := of_decide_eq_false hb58; have h3 := of_decide_eq_false hb51; simp [inView, h2, h3]
          exact ⟨⟨[], [.own w 43 9 (pre.filter (inView a s)).length ((pre.filter (inView a s)).flatMap D.cells), .box b12 22 [w], .box b7 41 [.int .i64 a, .int .i64 s, .int .i64 va, .bool ab, .bool hi]], sfc, smn, []⟩, ⟨w, by rw [hfil]⟩, Le.drop 0 (Le.mk trivial rfl rfl fun _ h => h)⟩
      · refine R_gn (Wide.round ly) rfl rfl rfl rfl ?_
        refine R_gn (Wide.round ly) rfl rfl rfl rfl ?_
        refine R_gn (Wide.round ly) rfl rfl rfl rfl ?_
        refine R_gn (Wide.round ly) rfl rfl rfl rfl ?_
        refine R_gy rfl rfl ?_
        refine R_p (Wide.round ly) (P_pickt rfl rfl) rfl rfl ?_
        refine R_p (Wide.round ly) (P_pickt rfl rfl) rfl rfl ?_
        refine JL_nil ?_
        refine J_ift rfl ?_
        refine J_region ?_
        refine R_loadb (Wide.round ly) 2 rfl rfl _ Try.underlying22 rfl rfl rfl ?_
        refine R_loadbs (Wide.round ly) 0 (vs := d.cells) rfl rfl _ Try.underlying43 rfl Try.type43 rfl rfl rfl ?_
        refine R_bslice (Wide.round ly) Try.underlying22 Try.type43 rfl (ivs := [(0, .agg d.cells.toArray)]) rfl rfl rfl rfl (fun b61 => ?_)
        refine R_append (Wide.round ly) 2 rfl rfl rfl Try.underlying22 Try.type43 rfl rfl rfl rfl (Src.box0 0 rfl) rfl rfl (by omega) rfl rfl (fun v62 => ?_)
        refine JL_own1 2 rfl (fun h62 g62 => ?_)
        refine R_store (Wide.round ly) 3 (vs := [v62]) rfl rfl rfl h62 Try.type22 rfl (Nat.le_of_ble_eq_true rfl) (by simp [g62]) rfl rfl ?_
        refine JL_nil ?_
        have hfil : (pre ++ [d]).filter (inView a s) = (pre.filter (inView a s)) ++ [d] := by rw [List.filter_append]; have h1 := of_decide_eq_true hb47; have h2 := of_decide_eq_true hb51; simp [inView, h1, h2]
        exact ⟨⟨[], [.own v62 43 9 ((pre.filter (inView a s)).length + 1) ((pre.filter (inView a s)).flatMap D.cells ++ d.cells), .box b12 22 [v62], .box b7 41 [.int .i64 a, .int .i64 s, .int .i64 va, .bool ab, .bool hi]], sfc, smn, []⟩, ⟨v62, by rw [hfil]; simp⟩, Le.drop 0 (Le.drop 0 (Le.mk trivial rfl rfl fun _ h => h))⟩
    · refine R_gn (Wide.round ly) rfl rfl rfl rfl ?_
      refine R_gn (Wide.round ly) rfl rfl rfl rfl ?_
      refine R_gn (Wide.round ly) rfl rfl rfl rfl ?_
      refine R_gu (Wide.round ly) rfl rfl rfl ?_
      refine R_gu (Wide.round ly) rfl rfl rfl ?_
      refine R_gu (Wide.round ly) rfl rfl rfl ?_
      refine R_gu (Wide.round ly) rfl rfl rfl ?_
      refine R_gu (Wide.round ly) rfl rfl rfl ?_
      refine R_gn (Wide.round ly) rfl rfl rfl rfl ?_
      refine R_p (Wide.round ly) (P_pickf rfl rfl) rfl rfl ?_
      refine JL_nil ?_
      refine J_iff rfl ?_
      refine J_skip ?_
      have hfil : (pre ++ [d]).filter (inView a s) = (pre.filter (inView a s)) := by rw [List.filter_append]; have h1 := of_decide_eq_false hb47; simp [inView, h1]
      exact ⟨⟨[], [.own w 43 9 (pre.filter (inView a s)).length ((pre.filter (inView a s)).flatMap D.cells), .box b12 22 [w], .box b7 41 [.int .i64 a, .int .i64 s, .int .i64 va, .bool ab, .bool hi]], sfc, smn, []⟩, ⟨w, by rw [hfil]⟩, Le.drop 0 (Le.mk trivial rfl rfl fun _ h => h)⟩
  · obtain ⟨w, hres⟩ := hT
    obtain ⟨ssl, sres, sfc, smn, sdf⟩ := S
    dsimp only at hres ⊢
    subst hres
    show J _ _ _ _ _ _
    refine J_pure (p := R' = []) (fun h hf => hf.2) fun hR => ?_
    subst hR
    refine J_rs ?_
    refine R_loadb Wide.wide 1 rfl rfl _ Try.underlying22 rfl rfl rfl ?_
    refine R_p Wide.wide (P_assign rfl) rfl rfl ?_
    refine R_p Wide.wide (P_assign rfl) rfl rfl ?_
    refine JL_nil ?_
    refine J_pubown (v := w) [] [.box b12 22 [w], .box b7 41 [.int .i64 a, .int .i64 s, .int .i64 va, .bool ab, .bool hi], .obj Df shut] rfl ?_
    refine J_ret ?_
    refine FinM.cons _ (.inl rfl) [Df] (res' := [.box b12 22 [w], .box b7 41 [.int .i64 a, .int .i64 s, .int .i64 va, .bool ab, .bool hi]]) (R' := []) _ rfl (List.perm_append_comm (l₁ := ([.box b12 22 [w], .box b7 41 [.int .i64 a, .int .i64 s, .int .i64 va, .bool ab, .bool hi]] : List Res)) (l₂ := [Res.obj Df shut])) (List.Perm.refl _) (Reads.two rfl (RV.tmp rfl) (RV.tmp rfl)) fun h hf => ⟨rfl, w, rfl, Row.rd hf.2⟩
  · exact hX.elim

end Go.Proofs.Ytgheodbcgddjlaa
