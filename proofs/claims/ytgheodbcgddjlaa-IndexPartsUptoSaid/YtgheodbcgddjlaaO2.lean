/- A region that draws its order, reads, and stores into one variable of the function's own: the stores by a plan of what each cell becomes. -/
import Derived.Test.YtgheodbcgddjlaaO
set_option linter.unusedVariables false
set_option linter.unusedSimpArgs false
namespace Go.Hl
open Go.RowKit Go.Grow
/-- Block b's cells stay, or become the plan's; all else stays. -/
def rT (b : Nat) (plan : List (Nat × Value)) (W W' : World) : Prop :=
  W'.os = W.os ∧ W'.tape = W.tape ∧ W'.output = W.output ∧ W'.heap.size = W.heap.size ∧ (∀ k, k ≠ b → W'.heap[k]? = W.heap[k]?) ∧
  ∀ cs t, W.heap[b]? = some (.cells cs t (0, 0)) → ∃ cs', W'.heap[b]? = some (.cells cs' t (0, 0)) ∧ cs'.size = cs.size ∧ ∀ i, i < cs.size → cs'[i]? = cs[i]? ∨ cs'[i]? = lk plan i
theorem rT.refl (b : Nat) (plan : List (Nat × Value)) (W : World) : rT b plan W W := ⟨rfl, rfl, rfl, rfl, fun _ _ => rfl, fun cs _ h => ⟨cs, h, rfl, fun _ _ => .inl rfl⟩⟩
theorem rT.trans {b : Nat} {plan : List (Nat × Value)} {A B D : World} (h : rT b plan A B) (k : rT b plan B D) : rT b plan A D := by
  obtain ⟨h1, h2, h3, h4, h5, h6⟩ := h
  obtain ⟨k1, k2, k3, k4, k5, k6⟩ := k
  refine ⟨k1.trans h1, k2.trans h2, k3.trans h3, k4.trans h4, fun i hi => (k5 i hi).trans (h5 i hi), fun cs t hc => ?_⟩
  obtain ⟨c1, e1, s1, q1⟩ := h6 cs t hc
  obtain ⟨c2, e2, s2, q2⟩ := k6 c1 t e1
  refine ⟨c2, e2, s2.trans s1, fun i hi => ?_⟩
  rcases q2 i (by omega) with h | h
  · rw [h]; exact q1 i hi
  · exact .inr h
@[reducible] def rlT (b : Nat) (plan : List (Nat × Value)) : Rl := ⟨rT b plan, rT.refl b plan, rT.trans⟩
def tΨ (ks : List (Nat × Nat × Nat)) (b : Nat) (plan : List (Nat × Value)) : Posts := fun k => (ks.lookup k).map fun q _ _ w' => ∃ cs t, w'.heap[b]? = some (.cells cs t (0, 0)) ∧ ∀ j, q.1 ≤ j → j < q.1 + q.2 → cs[j]? = lk plan j
def Tm (b : Nat) (plan : List (Nat × Value)) : List (Nat × World) → List (Nat × Nat) → Prop
  | [], [] => True
  | p :: gs, q :: d => (∃ cs t, p.2.heap[b]? = some (.cells cs t (0, 0)) ∧ ∀ j, q.1 ≤ j → j < q.1 + q.2 → cs[j]? = lk plan j) ∧ Tm b plan gs d
  | _, _ => False
def JT (F : Fence) (P : Program) (C : Ctx) (ops : Array Oper) (S0 : St) (ks : List (Nat × Nat × Nat)) (b : Nat) (plan : List (Nat × Value)) (tail : List Oper) (K : St → Prop) (k : Nat) (l : List Oper) (sl : List (Nat × Value)) (dn : List (Nat × Nat)) : Prop :=
  ∀ h a0 w0, Sat C S0 h a0 w0 → ∀ a gs, a.tmps.size = C.n → a.defers = S0.defers → (∀ t v, lk sl t = some v → a.tmps[t]? = some v) → Tm b plan gs dn →
    ∀ Q : Exit → Act → World → Prop, (∀ S' h' a' w', K S' → Sat C S' h' a' w' → Q .normal a' w') → @wpG (rlT b plan) P ops (anc ops) (tΨ ks b plan) w0 (fun a w => wpListIn F 0 P ops Q tail a w) l k gs a
section
variable {F : Fence} {P : Program} {C : Ctx} {Φ : Outs} {ops : Array Oper} {S0 : St} {ks : List (Nat × Nat × Nat)} {b : Nat} {plan : List (Nat × Value)} {tail l : List Oper} {K : St → Prop} {k : Nat} {sl : List (Nat × Value)} {dn : List (Nat × Nat)} {t : Tmp} {op : Op} {ty : TypeId} {ps : String} {af : Array Edge}
theorem J_tr (hW : Wide F) {id : Nat} {S : St} {l : List Oper} (n : Nat) (ks : List (Nat × Nat × Nat)) (b : Nat) (plan : List (Nat × Value)) (hm : P.follows .mixedOrders = true) (hB : growB l.toArray n = true) (h : JT F P C l.toArray S ks b plan (l.drop n) (fun S' => Φ .normal S') 0 (l.take n) S.slots []) : J F P C S (.region id l.toArray true) Φ := fun hp a w H => by
  have H' := H.ext (Ext.drew w)
  exact @wpIn_region_grow (rlT b plan) F 0 P id l _ a w hW.fn hW.depth (fun f args w R hc => hW.call P _ f args w R hc) n (tΨ ks b plan) hm hB
    (h hp a w.drew H' a [] H'.size H'.defers H'.slots trivial _ fun S' h' a' w' hk hs => ⟨S', h', hk, hs⟩)
theorem J_ts (hW : Wide F) {id : Nat} {S : St} {l : List Oper} {y : Code} (n : Nat) (ks : List (Nat × Nat × Nat)) (b : Nat) (plan : List (Nat × Value)) (hm : P.follows .mixedOrders = true) (hB : growB l.toArray n = true) (h : JT F P C l.toArray S ks b plan (l.drop n) (fun S' => J F P C S' y Φ) 0 (l.take n) S.slots []) : J F P C S (.seq (.region id l.toArray true) y) Φ :=
  J_seq (J_tr hW n ks b plan hm hB h)
theorem T_val {v : Value} (hk : ks.lookup k = none) (ht : decide (t < C.n) = true)
    (hr : ∀ (h : Hp) (a : Act) (w : World), S0.facts h → (h b = none → Hsub h w) → (∀ t v, lk sl t = some v → a.tmps[t]? = some v) → h b = none → (execOp a.eval ⟨some t, op, ty, ps, af, none⟩).run P w = .ok (.value v) w) {i : Nat} {tb : TypeId} {cs : List Value} (hb : S0.res[i]? = some (.box b tb cs))
    (h : JT F P C ops S0 ks b plan tail K (k + 1) l ((t, v) :: sl) dn) : JT F P C ops S0 ks b plan tail K k (⟨some t, op, ty, ps, af, none⟩ :: l) sl dn := fun hp a0 w0 H a gs hz hd hs hg Q hQ => by
  refine @wpG_quiet (rlT b plan) _ _ _ _ _ _ _ _ _ _ _ v (wanted_none rfl) (by simp [tΨ, hk]) (fun w hc => ?_) (h hp a0 w0 H (a.put (some t) v) gs (by rw [put_size]; exact hz) hd (put_slots hz ht hs) hg Q hQ)
  have hc1 : rT b plan w0 w := hc.1
  refine hr hp a w H.facts (fun hbn c o hco => ?_) hs ?_
  · have : c ≠ b := by rintro rfl; rw [hbn] at hco; cases hco
    exact (hc1.2.2.2.2.1 c this).trans (H.sub c o hco)
  · exact (H.fresh _ (List.mem_of_getElem? hb) b rfl).1
theorem T_p {v : Value} (hp : Pure P sl ⟨some t, op, ty, ps, af, none⟩ v) (hk : ks.lookup k = none) (ht : decide (t < C.n) = true) {i : Nat} {tb : TypeId} {cs : List Value} (hb : S0.res[i]? = some (.box b tb cs)) (h : JT F P C ops S0 ks b plan tail K (k + 1) l ((t, v) :: sl) dn) : JT F P C ops S0 ks b plan tail K k (⟨some t, op, ty, ps, af, none⟩ :: l) sl dn :=
  T_val hk ht (fun _ _ w _ _ hs _ => hp _ (agr_of hs) w) hb h
theorem T_load {x : Operand} {e : TypeId} {ad : Addr} {v : Value} (hx : evl sl x = some (.pointer (some ad))) (d : TypeDesc) (hu : P.underlying e = some d) (hna : aggB d = false) (hk : ks.lookup k = none) (ht : decide (t < C.n) = true) {i : Nat} {tb : TypeId} {cs : List Value} (hb : S0.res[i]? = some (.box b tb cs))
    (hv : ∀ h, S0.facts h → cellH h ad = some v) (h : JT F P C ops S0 ks b plan tail K (k + 1) l ((t, v) :: sl) dn) : JT F P C ops S0 ks b plan tail K k (⟨some t, .load e x, ty, ps, af, none⟩ :: l) sl dn :=
  T_val hk ht (fun h _ _ hf hs hsl hn => run_load_op rfl (agr_of hsl _ _ hx) (run_loadVar_one hu hna (cellH.cell (hs hn) (hv h hf)))) hb h
theorem T_loads {x : Operand} {e : TypeId} {ad : Addr} {vs : List Value} (hx : evl sl x = some (.pointer (some ad))) (d : TypeDesc) (hu : P.underlying e = some d) (hna : aggB d = true) {ti : TypeInfo} (hti : P.info? e = some ti) (hi : ti.size = vs.length) (hk : ks.lookup k = none) (ht : decide (t < C.n) = true) {i : Nat} {tb : TypeId} {cs : List Value} (hb : S0.res[i]? = some (.box b tb cs))
    (hv : ∀ h, S0.facts h → ∀ j u, vs[j]? = some u → cellH h (ad.add j) = some u) (h : JT F P C ops S0 ks b plan tail K (k + 1) l ((t, .agg vs.toArray) :: sl) dn) : JT F P C ops S0 ks b plan tail K k (⟨some t, .load e x, ty, ps, af, none⟩ :: l) sl dn :=
  T_val hk ht (fun h _ _ hf hs hsl hn => run_load_op rfl (agr_of hsl _ _ hx) (run_loadVar_agg hu hna (by simp [hti, hi]) fun j u hj => cellH.cell (hs hn) (hv h hf j u hj))) hb h
theorem T_store {x y : Operand} {e tb : TypeId} {off i : Nat} {cs vs : List Value} {v : Value} (hx : evl sl x = some (.pointer (some ⟨b, off, none⟩))) (hy : evl sl y = some v) (hb : S0.res[i]? = some (.box b tb cs)) (hv : v.cells = vs.toArray) {ti : TypeInfo} (hti : P.info? e = some ti) (hi : ti.size = vs.length) (hfit : off + vs.length ≤ cs.length) (h1 : vs.all (·.oneCell') = true)
    (hpl : (List.range vs.length).map (fun j => lk plan (off + j)) = vs.map some) (hk : ks.lookup k = some (off, vs.length))
    (h : JT F P C ops S0 ks b plan tail K (k + 1) l sl ((off, vs.length) :: dn)) : JT F P C ops S0 ks b plan tail K k (⟨none, .store e x y, ty, ps, af, none⟩ :: l) sl dn := fun hp a0 w0 H a gs hz hd hs hg Q hQ => by
  have hpl' : ∀ j, off ≤ j → j < off + vs.length → lk plan j = vs[j - off]? := fun j h1 h2 => by
    have := congrArg (fun l => l[j - off]?) hpl
    simp only [List.getElem?_map] at this
    rw [List.getElem?_range (by omega)] at this
    simp only [Option.map_some, show off + (j - off) = j by omega] at this
    cases hc : vs[j - off]? with
    | none => rw [hc] at this; simp at this
    | some u => rw [hc] at this; simpa using this
  refine @wpG_grow (rlT b plan) _ _ _ _ _ _ _ _ _ _ _ (fun _ _ w' => ∃ cs t, w'.heap[b]? = some (.cells cs t (0, 0)) ∧ ∀ j, off ≤ j → j < off + vs.length → cs[j]? = lk plan j) (wanted_none rfl) (by simp [tΨ, hk]) (fun w hcl => ?_) (fun v' w' hcl hψ => ?_)
  · have hc1 : rT b plan w0 w := hcl.1
    have hb0 : w0.heap[b]? = some (.cells cs.toArray tb (0, 0)) := H.res _ (List.mem_of_getElem? hb)
    obtain ⟨c1, e1, s1, q1⟩ := hc1.2.2.2.2.2 _ _ hb0
    have s1' : c1.toList.length = cs.length := by simpa using s1
    have e1' : w.heap[b]? = some (.cells c1.toList.toArray tb (0, 0)) := by simpa using e1
    have hst := run_storeVar_box (P := P) (t := e) (off := off) (cs := c1.toList) (vs := vs) (v := v) e1' hv (by simp [hti, hi]) (by omega) h1
    show @growsUpon (rlT b plan) P w _ _
    rw [run_store_op rfl (agr_of hs _ _ hx) (agr_of hs _ _ hy) hst]
    have hnew := setRow_heap w b c1 (c1.toList.take off ++ vs ++ c1.toList.drop (off + vs.length)).toArray tb _ e1
    have hget : ∀ j, off ≤ j → j < off + vs.length → (c1.toList.take off ++ vs ++ c1.toList.drop (off + vs.length))[j]? = vs[j - off]? := fun j h1 h2 => by
      have : (c1.toList.take off).length = off := by rw [List.length_take]; omega
      rw [List.append_assoc, List.getElem?_append_right (by omega), this, List.getElem?_append_left (by omega)]
    refine ⟨⟨rfl, rfl, rfl, by simp [World.setRow], fun k hk => setRow_other w b k _ hk, fun c2 t2 hc2 => ?_⟩, ⟨_, _, hnew, fun j h1 h2 => ?_⟩⟩
    · rw [e1] at hc2
      simp only [Option.some.injEq, Obj.cells.injEq] at hc2
      obtain ⟨rfl, rfl, _⟩ := hc2
      refine ⟨_, hnew, by simp only [List.size_toArray, List.length_append, List.length_take, List.length_drop, Array.length_toList]; simp only [Array.length_toList] at s1'; omega, fun j hj => ?_⟩
      by_cases h3 : off ≤ j ∧ j < off + vs.length
      · right; simp only [List.getElem?_toArray]; rw [hget j h3.1 h3.2, hpl' j h3.1 h3.2]
      · left
        have hl : (c1.toList.take off).length = off := by rw [List.length_take]; omega
        simp only [List.getElem?_toArray]
        rcases Nat.lt_or_ge j off with h4 | h4
        · rw [List.append_assoc, List.getElem?_append_left (by omega), List.getElem?_take, if_pos h4]; simp
        · have h5 : off + vs.length ≤ j := by omega
          rw [List.getElem?_append_right (by simp; omega), List.getElem?_drop]
          have : off + vs.length + (j - (c1.toList.take off ++ vs).length) = j := by rw [List.length_append, hl]; omega
          rw [this]; simp
    · simp only [List.getElem?_toArray]; rw [hget j h1 h2, hpl' j h1 h2]
  · exact h hp a0 w0 H (a.put none v') ((k, w') :: gs) (by rw [put_size]; exact hz) hd hs ⟨hψ, hg⟩ Q hQ
theorem Tm.all {b : Nat} {plan : List (Nat × Value)} : ∀ {gs : List (Nat × World)} {d : List (Nat × Nat)}, Tm b plan gs d → ∀ q ∈ d, ∃ p ∈ gs, ∃ cs t, p.2.heap[b]? = some (.cells cs t (0, 0)) ∧ ∀ j, q.1 ≤ j → j < q.1 + q.2 → cs[j]? = lk plan j
  | [], [], _, q, hq => by cases hq
  | p :: gs, q :: d, h, r, hr => by
    rcases List.mem_cons.1 hr with rfl | hr
    · exact ⟨p, List.mem_cons_self .., h.1⟩
    · obtain ⟨p', hp, hx⟩ := Tm.all h.2 r hr
      exact ⟨p', List.mem_cons_of_mem _ hp, hx⟩
  | [], _ :: _, h, _, _ => h.elim
  | _ :: _, [], h, _, _ => h.elim
theorem T_nil (i : Nat) {tb : TypeId} {cs cs' : List Value} (hb : S0.res[i]? = some (.box b tb cs)) (hcs : (List.range cs.length).map (fun j => (lk plan j).getD (cs.getD j undef)) = cs') (hcov : ((List.range cs.length).all fun j => (lk plan j).isNone || dn.any fun q => decide (q.1 ≤ j) && decide (j < q.1 + q.2)) = true)
    {res' : List Res} (hr' : S0.res.set i (.box b tb cs') = res')
    (h : JL F P C ops ⟨sl, res', S0.facts, S0.mono, S0.defers⟩ tail K) : JT F P C ops S0 ks b plan tail K k [] sl dn := fun hp a0 w0 H a gs hz hd hs hg Q hQ => by
  refine @wpG_nil (rlT b plan) _ _ _ _ _ _ _ _ _ fun w he hgs => ?_
  subst hr'
  have he : rT b plan w0 w := he
  have hb0 : w0.heap[b]? = some (.cells cs.toArray tb (0, 0)) := H.res _ (List.mem_of_getElem? hb)
  obtain ⟨c1, e1, s1, q1⟩ := he.2.2.2.2.2 _ _ hb0
  have s1' : c1.size = cs.length := by simpa using s1
  have hc1 : c1 = cs'.toArray := by
    subst hcs
    apply Array.ext
    · simp [s1']
    · intro j hj hj'
      have hjl : j < cs.length := by omega
      have h1 : c1[j]? = some c1[j] := by simp [hj]
      simp only [List.getElem_toArray, List.getElem_map, List.getElem_range]
      have h2 := List.all_eq_true.1 hcov j (List.mem_range.2 hjl)
      rcases Bool.or_eq_true _ _ |>.mp h2 with h3 | h3
      · have h3' : lk plan j = none := by simpa using h3
        rw [h3']
        rcases q1 j (by simpa using hjl) with h4 | h4
        · rw [h1] at h4
          simp [hjl] at h4
          simp [h4, hjl]
        · rw [h1, h3'] at h4; cases h4
      · obtain ⟨q, hq, hqj⟩ := List.any_eq_true.1 h3
        simp only [Bool.and_eq_true, decide_eq_true_eq] at hqj
        obtain ⟨p, hp', c2, t2, e2, q2⟩ := hg.all q hq
        have hpw : rT b plan p.2 w := hgs p hp'
        obtain ⟨c3, e3, s3, q3⟩ := hpw.2.2.2.2.2 _ _ e2
        rw [e1] at e3
        simp only [Option.some.injEq, Obj.cells.injEq] at e3
        obtain ⟨rfl, _, _⟩ := e3
        have h5 : c1[j]? = lk plan j := by
          rcases q3 j (by omega) with h6 | h6
          · rw [h6]; exact q2 j hqj.1 hqj.2
          · exact h6
        rw [h1] at h5
        rw [← h5]; rfl
  subst hc1
  have Hx := H.setbox i hb (w' := w) he.1 he.2.1 he.2.2.1 he.2.2.2.1 e1 he.2.2.2.2.1
  exact h hp a w ⟨hz, hs, hd, Hx.os, Hx.tape, Hx.output, Hx.grow, Hx.keep, Hx.le0, Hx.sub, Hx.new, Hx.res, Hx.fresh, Hx.apart, Hx.facts⟩ Q hQ
end
end Go.Hl
