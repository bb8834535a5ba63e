/- Regions that draw their order, by the rules on symbolic states: one walk, in the order of the text. -/
import Derived.Test.YtgheodbcgddjlaaQ
set_option linter.unusedVariables false
set_option linter.unusedSimpArgs false
namespace Go.Hl
open Go.RowKit Go.Grow

structure GF where
  k : Nat
  F : Hp → Prop
  m : Mono F
def gall : List GF → Hp → Prop
  | [], _ => True
  | q :: r, h => q.F h ∧ gall r h
theorem gall_le : ∀ (gl : List GF) {h h' : Hp}, Hle h h' → gall gl h → gall gl h'
  | [], _, _, _, _ => trivial
  | q :: r, _, _, hle, hg => ⟨q.m.le hle hg.1, gall_le r hle hg.2⟩
instance {gl : List GF} : Mono (gall gl) := ⟨gall_le gl⟩
theorem gall_mk : ∀ {gl : List GF} {h : Hp}, (∀ q ∈ gl, q.F h) → gall gl h
  | [], _, _ => trivial
  | q :: r, _, hg => ⟨hg q (List.mem_cons_self ..), gall_mk fun x hx => hg x (List.mem_cons_of_mem _ hx)⟩

abbrev Fcts := List (Nat × (Nat → Value → Hp → Prop))
def fnd : Fcts → Nat → Option (Nat → Value → Hp → Prop)
  | [], _ => none
  | (i, φ) :: r, k => if i = k then some φ else fnd r k
def gpost (h : Hp) (n0 : Nat) (F : Hp → Prop) (w : World) : Prop := ∃ h', Hle h h' ∧ Hsub h' w ∧ (∀ b o, h' b = some o → h b = some o ∨ n0 ≤ b) ∧ F h'
def gΨ (h : Hp) (n0 : Nat) (Φs : Fcts) : Posts := fun k => (fnd Φs k).map fun φ _ v w' => gpost h n0 (φ n0 v) w'
def Gm (h : Hp) (n0 : Nat) : List (Nat × World) → List GF → Prop
  | [], [] => True
  | p :: gs, q :: gl => (p.1 = q.k ∧ gpost h n0 q.F p.2) ∧ Gm h n0 gs gl
  | _, _ => False

theorem Hsub.ext {h : Hp} {w w' : World} (hs : Hsub h w) (he : Ext w w') : Hsub h w' := fun b o hb => by
  have := hs b o hb
  exact (Below.block he _ (Array.getElem?_eq_some_iff.1 this).1).trans this

theorem Gm.comb {h : Hp} {n0 : Nat} {w : World} (hs : Hsub h w) (sel : Nat → Bool) : ∀ {gs : List (Nat × World)} {gl : List GF}, Gm h n0 gs gl → (∀ p ∈ gs, sel p.1 = true → Ext p.2 w) →
    ∃ h', Hle h h' ∧ Hsub h' w ∧ (∀ b o, h' b = some o → h b = some o ∨ n0 ≤ b) ∧ ∀ q ∈ gl, sel q.k = true → q.F h'
  | [], [], _, _ => ⟨h, Hle.refl h, hs, fun _ _ x => .inl x, by simp⟩
  | p :: gs, q :: gl, ⟨⟨hk, hq⟩, hg⟩, he => by
    obtain ⟨h1, l1, s1, n1, f1⟩ := Gm.comb hs sel hg fun p hp => he p (List.mem_cons_of_mem _ hp)
    by_cases hsel : sel q.k = true
    · obtain ⟨h2, l2, s2, n2, f2⟩ := hq
      have s2' : Hsub h2 w := s2.ext (he p (List.mem_cons_self ..) (by rw [hk]; exact hsel))
      let h3 : Hp := fun b => match h1 b with | some o => some o | none => h2 b
      have l13 : Hle h1 h3 := fun b o hb => by simp [h3, hb]
      have l23 : Hle h2 h3 := fun b o hb => by
        cases e : h1 b with
        | none => simp [h3, e, hb]
        | some o' =>
          have := (s1 b o' e).symm.trans (s2' b o hb)
          simp [h3, e, Option.some.inj this]
      refine ⟨h3, l1.trans l13, fun b o hb => ?_, fun b o hb => ?_, fun x hx hxs => ?_⟩
      · cases e : h1 b with
        | none => exact s2' b o (by simpa [h3, e] using hb)
        | some o' => exact s1 b o (by simpa [h3, e] using hb)
      · cases e : h1 b with
        | none => exact n2 b o (by simpa [h3, e] using hb)
        | some o' => exact n1 b o (by simpa [h3, e] using hb)
      · rcases List.mem_cons.1 hx with rfl | hx
        · exact x.m.le l23 f2
        · exact x.m.le l13 (f1 x hx hxs)
    · refine ⟨h1, l1, s1, n1, fun x hx hxs => ?_⟩
      rcases List.mem_cons.1 hx with rfl | hx
      · exact absurd hxs hsel
      · exact f1 x hx hxs
  | [], _ :: _, hg, _ => hg.elim
  | _ :: _, [], hg, _ => hg.elim

/-- THE WALK OF A REGION THAT DRAWS: sl, gl: slots and facts by now. -/
def JG (F : Fence) (P : Program) (C : Ctx) (ops : Array Oper) (S0 : St) (Φs : Fcts) (tail : List Oper) (K : St → Prop) (k : Nat) (l : List Oper) (sl : List (Nat × Value)) (gl : List GF) : Prop :=
  ∀ h a0 w0, Sat C S0 h a0 w0 → ∀ a gs, a.tmps.size = C.n → a.defers = S0.defers → (∀ t v, lk sl t = some v → a.tmps[t]? = some v) → Gm h w0.heap.size gs gl →
    ∀ Q : Exit → Act → World → Prop, (∀ S' h' a' w', K S' → Sat C S' h' a' w' → Q .normal a' w') → wpG P ops (anc ops) (gΨ h w0.heap.size Φs) w0 (fun a w => wpListIn F 0 P ops Q tail a w) l k gs a

theorem Sat.ext {C : Ctx} {S : St} {h : Hp} {a : Act} {w w' : World} (H : Sat C S h a w) (he : Ext w w') : Sat C S h a w' := by
  refine ⟨H.size, H.slots, H.defers, (Below.os he).trans H.os, (Below.tape he).trans H.tape, (Below.output he).trans H.output, Nat.le_trans H.grow he.size, fun k hk hM => (Below.block he _ (Nat.lt_of_lt_of_le hk H.grow)).trans (H.keep k hk hM), H.le0, H.sub.ext he, H.new, fun r hr => Res.holds_keep (H.res r hr) ⟨Below.os he, Below.tape he, Below.output he, he.size⟩ fun b hb => Below.block he _ (Res.holds_lt (H.res r hr) hb), H.fresh, H.apart, H.facts⟩

section
variable {F : Fence} {P : Program} {C : Ctx} {Φ : Outs} {ops : Array Oper} {S0 : St} {Φs : Fcts} {tail l : List Oper} {K : St → Prop} {k : Nat} {sl : List (Nat × Value)} {gl : List GF} {t : Tmp} {op : Op} {ty : TypeId} {ps : String} {af : Array Edge}

theorem J_drawn (hW : Wide F) {id : Nat} {S : St} {l : List Oper} (n : Nat) (Φs : Fcts) (hm : P.follows .mixedOrders = true) (hB : growB l.toArray n = true) (h : JG F P C l.toArray S Φs (l.drop n) (fun S' => Φ .normal S') 0 (l.take n) S.slots []) : J F P C S (.region id l.toArray true) Φ := fun hp a w H => by
  have H' := H.ext (Ext.drew w)
  exact wpIn_region_grow hW.fn hW.depth (fun f args w R hc => hW.call P _ f args w R hc) n (gΨ hp w.drew.heap.size Φs) hm hB
    (h hp a w.drew H' a [] H'.size H'.defers H'.slots trivial _ fun S' h' a' w' hk hs => ⟨S', h', hk, hs⟩)

theorem J_ds (hW : Wide F) {id : Nat} {S : St} {l : List Oper} {y : Code} (n : Nat) (Φs : Fcts) (hm : P.follows .mixedOrders = true) (hB : growB l.toArray n = true) (h : JG F P C l.toArray S Φs (l.drop n) (fun S' => J F P C S' y Φ) 0 (l.take n) S.slots []) : J F P C S (.seq (.region id l.toArray true) y) Φ :=
  J_seq (J_drawn hW n Φs hm hB h)

theorem agr_of {a : Act} (hs : ∀ t v, lk sl t = some v → a.tmps[t]? = some v) : Agr sl a.eval := fun x v hx => by
  cases x with
  | tmp t => simp [Act.eval, hs t v hx]
  | _ => simpa [evl, Act.eval] using hx
theorem put_slots {a : Act} {v : Value} (hz : a.tmps.size = C.n) (ht : decide (t < C.n) = true) (hs : ∀ t v, lk sl t = some v → a.tmps[t]? = some v) : ∀ u x, lk ((t, v) :: sl) u = some x → (a.put (some t) v).tmps[u]? = some x := fun u x hx => by
  simp only [lk] at hx
  split at hx
  · rename_i e; subst e
    have : t < a.tmps.size := by rw [hz]; simpa using ht
    simp [Act.put, this]; simpa using hx
  · rename_i e
    rw [put_other (fun y hy hyt => e (by cases hy; exact hyt))]
    exact hs u x hx

theorem wanted_none {o : Oper} {f : Nat → Option Bool} (h : o.guard = none) : Region.wanted o f = true := by simp [Region.wanted, h]

theorem G_nil (h : JL F P C ops ⟨sl, S0.res, fun h => S0.facts h ∧ gall gl h, (by have := S0.mono; infer_instance), S0.defers⟩ tail K) : JG F P C ops S0 Φs tail K k [] sl gl := fun hp a0 w0 H a gs hz hd hs hg Q hQ => by
  refine wpG_nil fun w he hgs => ?_
  obtain ⟨h', l', s', n', f'⟩ := Gm.comb (H.sub.ext he) (fun _ => true) hg fun p hp _ => hgs p hp
  have He := H.ext he
  refine h h' a w ⟨hz, hs, hd, He.os, He.tape, He.output, He.grow, He.keep, He.le0.trans l', s', fun b o hb => ?_, He.res, fun r hr b hb => ?_, He.apart, ⟨S0.mono.le l' H.facts, gall_mk fun q hq => f' q hq rfl⟩⟩ Q hQ
  · rcases n' b o hb with h1 | h1
    · exact H.new b o h1
    · exact .inr (.inl (Nat.le_trans H.grow h1))
  · have h1 := H.fresh r hr b hb
    refine ⟨?_, h1.2⟩
    cases e : h' b with
    | none => rfl
    | some o =>
      rcases n' b o e with h2 | h2
      · rw [h1.1] at h2; cases h2
      · have := Res.holds_lt (H.res r hr) hb; omega

/-- .. the region's own facts let go. -/
theorem G_nil0 (h : JL F P C ops ⟨sl, S0.res, S0.facts, S0.mono, S0.defers⟩ tail K) : JG F P C ops S0 Φs tail K k [] sl gl :=
  G_nil fun hp a w H Q hQ => h hp a w (H.weaken (fun _ _ x => x) rfl rfl fun x => x.1) Q hQ
/-- An operation that looks at memory at most. -/
theorem G_val {v : Value} (hΨ : fnd Φs k = none) (ht : decide (t < C.n) = true)
    (hr : ∀ h a w, Sat C ⟨sl, S0.res, fun h => S0.facts h ∧ ∀ q ∈ gl, anc ops k q.k = true → q.F h, ⟨fun hle x => ⟨S0.mono.le hle x.1, fun q hq hk => q.m.le hle (x.2 q hq hk)⟩⟩, S0.defers⟩ h a w → (execOp a.eval ⟨some t, op, ty, ps, af, none⟩).run P w = .ok (.value v) w)
    (h : JG F P C ops S0 Φs tail K (k + 1) l ((t, v) :: sl) gl) : JG F P C ops S0 Φs tail K k (⟨some t, op, ty, ps, af, none⟩ :: l) sl gl := fun hp a0 w0 H a gs hz hd hs hg Q hQ => by
  refine wpG_quiet (v := v) (wanted_none rfl) (by simp [gΨ, hΨ]) (fun w hc => ?_) (h hp a0 w0 H (a.put (some t) v) gs (by rw [put_size]; exact hz) hd (put_slots hz ht hs) hg Q hQ)
  obtain ⟨h', l', s', n', f'⟩ := Gm.comb (H.sub.ext hc.1) (fun i => anc ops k i) hg hc.2
  have He := H.ext hc.1
  refine hr h' a w ⟨hz, hs, hd, He.os, He.tape, He.output, He.grow, He.keep, He.le0.trans l', s', fun b o hb => ?_, He.res, fun r hr b hb => ?_, He.apart, ⟨S0.mono.le l' H.facts, f'⟩⟩
  · rcases n' b o hb with h1 | h1
    · exact H.new b o h1
    · exact .inr (.inl (Nat.le_trans H.grow h1))
  · have h1 := H.fresh r hr b hb
    refine ⟨?_, h1.2⟩
    cases e : h' b with
    | none => rfl
    | some o =>
      rcases n' b o e with h2 | h2
      · rw [h1.1] at h2; cases h2
      · have := Res.holds_lt (H.res r hr) hb; omega

theorem G_p {v : Value} (hp : Pure P sl ⟨some t, op, ty, ps, af, none⟩ v) (hΨ : fnd Φs k = none) (ht : decide (t < C.n) = true) (h : JG F P C ops S0 Φs tail K (k + 1) l ((t, v) :: sl) gl) : JG F P C ops S0 Φs tail K k (⟨some t, op, ty, ps, af, none⟩ :: l) sl gl :=
  G_val hΨ ht (fun h a w H => hp _ H.agr w) h

theorem G_load {x : Operand} {e : TypeId} {ad : Addr} {v : Value} (hx : evl sl x = some (.pointer (some ad))) (d : TypeDesc) (hu : P.underlying e = some d) (hna : aggB d = false) (hΨ : fnd Φs k = none) (ht : decide (t < C.n) = true)
    (hv : ∀ h, S0.facts h → (∀ q ∈ gl, anc ops k q.k = true → q.F h) → cellH h ad = some v) (h : JG F P C ops S0 Φs tail K (k + 1) l ((t, v) :: sl) gl) : JG F P C ops S0 Φs tail K k (⟨some t, .load e x, ty, ps, af, none⟩ :: l) sl gl :=
  G_val hΨ ht (fun h a w H => run_load_op rfl (H.agr _ _ hx) (run_loadVar_one hu hna (cellH.cell H.sub (hv h H.facts.1 H.facts.2)))) h

theorem G_loads {x : Operand} {e : TypeId} {ad : Addr} {cs : List Value} (hx : evl sl x = some (.pointer (some ad))) (d : TypeDesc) (hu : P.underlying e = some d) (hna : aggB d = true) {ti : TypeInfo} (hti : P.info? e = some ti) (hi : ti.size = cs.length) (hΨ : fnd Φs k = none) (ht : decide (t < C.n) = true)
    (hv : ∀ h, S0.facts h → (∀ q ∈ gl, anc ops k q.k = true → q.F h) → ∀ j u, cs[j]? = some u → cellH h (ad.add j) = some u) (h : JG F P C ops S0 Φs tail K (k + 1) l ((t, .agg cs.toArray) :: sl) gl) : JG F P C ops S0 Φs tail K k (⟨some t, .load e x, ty, ps, af, none⟩ :: l) sl gl :=
  G_val hΨ ht (fun h a w H => run_load_op rfl (H.agr _ _ hx) (run_loadVar_agg hu hna (by simp [hti, hi]) fun j u hj => cellH.cell H.sub (hv h H.facts.1 H.facts.2 j u hj))) h

theorem G_loadb (i : Nat) {x : Operand} {e tb : TypeId} {b off : Nat} {cs : List Value} {v : Value} (hx : evl sl x = some (.pointer (some ⟨b, off, none⟩))) (hr : S0.res[i]? = some (.box b tb cs)) (d : TypeDesc) (hu : P.underlying e = some d) (hna : aggB d = false) (hv : cs[off]? = some v) (hΨ : fnd Φs k = none) (ht : decide (t < C.n) = true)
    (h : JG F P C ops S0 Φs tail K (k + 1) l ((t, v) :: sl) gl) : JG F P C ops S0 Φs tail K k (⟨some t, .load e x, ty, ps, af, none⟩ :: l) sl gl :=
  G_val hΨ ht (fun h a w H => run_load_op rfl (H.agr _ _ hx) (run_loadVar_one hu hna (by rw [box_cell (show Res.holds w (.box b tb cs) from H.res _ (List.mem_of_getElem? hr))]; exact hv))) h

theorem G_loadbs (i : Nat) {x : Operand} {e tb : TypeId} {b off : Nat} {cs vs : List Value} (hx : evl sl x = some (.pointer (some ⟨b, off, none⟩))) (hr : S0.res[i]? = some (.box b tb cs)) (d : TypeDesc) (hu : P.underlying e = some d) (hna : aggB d = true) {ti : TypeInfo} (hti : P.info? e = some ti) (hi : ti.size = vs.length) (hv : (cs.drop off).take vs.length = vs) (hΨ : fnd Φs k = none) (ht : decide (t < C.n) = true)
    (h : JG F P C ops S0 Φs tail K (k + 1) l ((t, .agg vs.toArray) :: sl) gl) : JG F P C ops S0 Φs tail K k (⟨some t, .load e x, ty, ps, af, none⟩ :: l) sl gl :=
  G_val hΨ ht (fun h a w H => run_load_op rfl (H.agr _ _ hx) (run_loadVar_agg hu hna (by simp [hti, hi]) fun j u hj => by
    rw [add_none, box_cell (show Res.holds w (.box b tb cs) from H.res _ (List.mem_of_getElem? hr))]
    rw [← hv, List.getElem?_take] at hj
    split at hj
    · simpa using hj
    · cases hj)) h

/-- A call under a contract without memory handed over. -/
theorem G_fn {f : FuncId} {xs : Array Operand} {vs : List Value} {ts : Array TypeId} {Fc : Hp → Prop} {φ0 φ : Value → Hp → Prop} (hf : Enters P f) (hxs : xs.toList.map (evl sl) = vs.map some) (hc : FnC P f vs.toArray Fc φ0)
    (hF : ∀ h, S0.facts h → (∀ q ∈ gl, anc ops k q.k = true → q.F h) → Fc h) (hΨ : fnd Φs k = some (fun _ => φ)) (hφ : ∀ v h, φ0 v h → φ v h) (hm : ∀ v, Mono (φ v)) (ht : decide (t < C.n) = true)
    (h : ∀ v, JG F P C ops S0 Φs tail K (k + 1) l ((t, v) :: sl) (⟨k, φ v, hm v⟩ :: gl)) : JG F P C ops S0 Φs tail K k (⟨some t, .call { callee := .value (.func f), args := xs, argTypes := ts }, ty, ps, af, none⟩ :: l) sl gl := fun hp a0 w0 H a gs hz hd hs hg Q hQ => by
  have key : ∀ (l : List Operand) (r : List Value), l.map (evl sl) = r.map some → l.map a.eval = r := by
    intro l
    induction l with
    | nil => intro r hr; cases r <;> simp_all
    | cons x l ih =>
      intro r hr
      cases r with
      | nil => simp at hr
      | cons b r => simp only [List.map_cons, List.cons.injEq] at hr ⊢; exact ⟨agr_of hs _ _ hr.1, ih r hr.2⟩
  have e1 : xs.map a.eval = vs.toArray := by rw [← key _ _ hxs]; cases xs; simp
  refine wpG_grow (ψ := fun _ v w' => gpost hp w0.heap.size (φ v) w') (wanted_none rfl) (by simp [gΨ, hΨ]) (fun w hcl => ?_) (fun v w' hcl hψ => h v hp a0 w0 H (a.put (some t) v) ((k, w') :: gs) (by rw [put_size]; exact hz) hd (put_slots hz ht hs) ⟨⟨rfl, hψ⟩, hg⟩ Q hQ)
  obtain ⟨h', l', s', n', f'⟩ := Gm.comb (H.sub.ext hcl.1) (fun i => anc ops k i) hg hcl.2
  refine growsAt_call rfl (hf _ w) ?_
  rw [e1]
  refine (hc h' w s' (hF h' (S0.mono.le l' H.facts) f') ⟨by simp, List.Pairwise.nil, by simp⟩).mono ?_
  rintro e w' ⟨v, R', h2, rfl, L⟩
  obtain ⟨_, hp2⟩ := L.post
  refine ⟨v, rfl, ⟨L.os, L.tape, L.output, L.size, fun b hb => L.keep b hb (by simp)⟩, h2, l'.trans L.le, L.sub, fun b o hb => ?_, hφ v h2 hp2⟩
  rcases L.new b o hb with h3 | h3 | ⟨r, hr, _⟩
  · exact n' b o h3
  · exact .inr (Nat.le_trans hcl.1.size h3)
  · simp at hr

/-- .. whose result is u. -/
theorem G_fv {f : FuncId} {xs : Array Operand} {vs : List Value} {ts : Array TypeId} {Fc : Hp → Prop} {u : Value} (hf : Enters P f) (hxs : xs.toList.map (evl sl) = vs.map some) (hc : FnC P f vs.toArray Fc (fun v _ => v = u))
    (hF : ∀ h, S0.facts h → (∀ q ∈ gl, anc ops k q.k = true → q.F h) → Fc h) (hΨ : fnd Φs k = some (fun _ v _ => v = u)) (ht : decide (t < C.n) = true)
    (h : JG F P C ops S0 Φs tail K (k + 1) l ((t, u) :: sl) (⟨k, fun _ => True, inferInstance⟩ :: gl)) : JG F P C ops S0 Φs tail K k (⟨some t, .call { callee := .value (.func f), args := xs, argTypes := ts }, ty, ps, af, none⟩ :: l) sl gl := by
  refine G_fn hf hxs hc hF hΨ (fun _ _ x => x) (fun _ => inferInstance) ht fun v hp a0 w0 H a gs hz hd hs hg Q hQ => ?_
  cases gs with
  | nil => exact hg.elim
  | cons p gs =>
    obtain ⟨⟨e, h', l', s', n', rfl⟩, hg'⟩ := hg
    exact h hp a0 w0 H a (p :: gs) hz hd hs ⟨⟨e, h', l', s', n', trivial⟩, hg'⟩ Q hQ

/-- New memory. -/
theorem G_new (vf : Nat → Value) {cs : List Value} {e : TypeId} (hr : ∀ ρ, Agr sl ρ → ∀ w, (execOp ρ ⟨some t, op, ty, ps, af, none⟩).run P w = .ok (.value (vf w.heap.size)) (w.alloc (.cells cs.toArray e)))
    (hΨ : fnd Φs k = some (fun _ v h => ∃ b, v = vf b ∧ h b = some (.cells cs.toArray e (0, 0)))) (ht : decide (t < C.n) = true)
    (h : ∀ b, JG F P C ops S0 Φs tail K (k + 1) l ((t, vf b) :: sl) (⟨k, fun h => h b = some (.cells cs.toArray e (0, 0)), inferInstance⟩ :: gl)) : JG F P C ops S0 Φs tail K k (⟨some t, op, ty, ps, af, none⟩ :: l) sl gl := fun hp a0 w0 H a gs hz hd hs hg Q hQ => by
  refine wpG_grow (ψ := fun _ v w' => gpost hp w0.heap.size (fun h => ∃ b, v = vf b ∧ h b = some (.cells cs.toArray e (0, 0))) w') (wanted_none rfl) (by simp [gΨ, hΨ]) (fun w hcl => ?_) (fun v w' hcl hψ => ?_)
  · show growsUpon P w _ _
    rw [hr _ (agr_of hs) w]
    have hnone : hp w.heap.size = none := by
      cases hh : hp w.heap.size with
      | none => rfl
      | some o => have := (H.sub.ext hcl.1) _ _ hh; simp at this
    refine ⟨Ext.alloc _ _, upH hp w.heap.size (.cells cs.toArray e), Hle_up hnone, fun b o hb => ?_, fun b o hb => ?_, w.heap.size, rfl, by simp [upH]⟩
    · unfold upH at hb
      split at hb
      · rename_i e; subst e; simp only [Option.some.injEq] at hb; subst hb; exact World.alloc_heap_new w _
      · exact ((H.sub.ext hcl.1).ext (Ext.alloc w _)) b o hb
    · unfold upH at hb
      split at hb
      · rename_i e; subst e; exact .inr hcl.1.size
      · exact .inl hb
  · obtain ⟨h', l', s', n', b, rfl, hb⟩ := hψ
    exact h b hp a0 w0 H (a.put (some t) (vf b)) ((k, w') :: gs) (by rw [put_size]; exact hz) hd (put_slots hz ht hs) ⟨⟨rfl, h', l', s', n', hb⟩, hg⟩ Q hQ

/-! ### Guards -/
theorem yl {a : Act} {j : Nat} {tg : Tmp} {b : Bool} (hj : (ops[j]?).bind (·.dst) = some tg) (hs : ∀ t v, lk sl t = some v → a.tmps[t]? = some v) (hb : lk sl tg = some (.bool b)) : yielded ops a.tmps j = some b := by
  unfold yielded
  rw [hj]
  simp [hs tg _ hb]
theorem G_gy {d : Option Tmp} {j : Nat} {want : Bool} {tg : Tmp} (hj : (ops[j]?).bind (·.dst) = some tg) (hb : lk sl tg = some (.bool want)) (h : JG F P C ops S0 Φs tail K k (⟨d, op, ty, ps, af, none⟩ :: l) sl gl) :
    JG F P C ops S0 Φs tail K k (⟨d, op, ty, ps, af, some (j, want)⟩ :: l) sl gl := fun hp a0 w0 H a gs hz hd hs hg Q hQ => by
  have := h hp a0 w0 H a gs hz hd hs hg Q hQ
  unfold wpG at this ⊢
  rw [if_pos (by simp [Region.wanted, yl hj hs hb])]
  rw [if_pos (by simp [Region.wanted])] at this
  exact this
theorem G_gn {j : Nat} {want b : Bool} {tg : Tmp} (hj : (ops[j]?).bind (·.dst) = some tg) (hb : lk sl tg = some (.bool b)) (hbw : (b == want) = false) (ht : decide (t < C.n) = true) (h : JG F P C ops S0 Φs tail K (k + 1) l ((t, undef) :: sl) gl) :
    JG F P C ops S0 Φs tail K k (⟨some t, op, ty, ps, af, some (j, want)⟩ :: l) sl gl := fun hp a0 w0 H a gs hz hd hs hg Q hQ =>
  wpG_skip (by simp only [Region.wanted, yl hj hs hb]; cases b <;> cases want <;> simp_all) (h hp a0 w0 H (a.put (some t) undef) gs (by rw [put_size]; exact hz) hd (put_slots hz ht hs) hg Q hQ)
theorem G_gu {j : Nat} {want : Bool} {tg : Tmp} (hj : (ops[j]?).bind (·.dst) = some tg) (hb : lk sl tg = some undef) (ht : decide (t < C.n) = true) (h : JG F P C ops S0 Φs tail K (k + 1) l ((t, undef) :: sl) gl) :
    JG F P C ops S0 Φs tail K k (⟨some t, op, ty, ps, af, some (j, want)⟩ :: l) sl gl := fun hp a0 w0 H a gs hz hd hs hg Q hQ =>
  wpG_skip (by
    have : yielded ops a.tmps j = none := by
      unfold yielded
      rw [hj]
      simp [hs tg _ hb, undef]
    simp [Region.wanted, this]) (h hp a0 w0 H (a.put (some t) undef) gs (by rw [put_size]; exact hz) hd (put_slots hz ht hs) hg Q hQ)
/-- What is known of a slot, said otherwise. -/
theorem G_say {tg : Tmp} {u v : Value} (hb : lk sl tg = some u) (e : u = v) (h : JG F P C ops S0 Φs tail K k l ((tg, v) :: sl) gl) : JG F P C ops S0 Φs tail K k l sl gl := fun hp a0 w0 H a gs hz hd hs hg Q hQ => by
  refine h hp a0 w0 H a gs hz hd (fun t x hx => ?_) hg Q hQ
  simp only [lk] at hx
  split at hx
  · rename_i e'; subst e'; cases hx; rw [← e]; exact hs _ _ hb
  · exact hs t x hx
theorem G_gd {j : Nat} {want b : Bool} {tg : Tmp} (hj : (ops[j]?).bind (·.dst) = some tg) (hb : lk sl tg = some (.bool b)) (ht : decide (t < C.n) = true)
    (hy : b = want → JG F P C ops S0 Φs tail K k (⟨some t, op, ty, ps, af, none⟩ :: l) ((tg, .bool want) :: sl) gl) (hn : b = !want → JG F P C ops S0 Φs tail K (k + 1) l ((t, undef) :: (tg, .bool (!want)) :: sl) gl) : JG F P C ops S0 Φs tail K k (⟨some t, op, ty, ps, af, some (j, want)⟩ :: l) sl gl := by
  by_cases e : b = want
  · exact G_say hb (by rw [e]) (G_gy hj (by simp [lk]) (hy e))
  · have e' : b = !want := by cases b <;> cases want <;> simp_all
    exact G_say hb (by rw [e']) (G_gn (b := !want) hj (by simp [lk]) (by cases want <;> rfl) ht (hn e'))
end
end Go.Hl
