/- The rules in the form that a program prints: states written out, slots newest first; regions that draw their order, by one walk. -/
import Derived.Test.YtgheodbcgddjlaaP
set_option linter.unusedVariables false
set_option linter.unusedSimpArgs false
namespace Go.Hl
open Go.RowKit Go.Grow

theorem Sat.agr {C : Ctx} {S : St} {h : Hp} {a : Act} {w : World} (H : Sat C S h a w) : Agr S.slots a.eval := fun x v hx => by
  cases x with
  | tmp t => simp [Act.eval, H.slots t v hx]
  | _ => simpa [evl, Act.eval] using hx

section
variable {F : Fence} {P : Program} {C : Ctx} {Φ : Outs} {ops : Array Oper} {l : List Oper} {o : Oper} {K : St → Prop} {sl : List (Nat × Value)} {res : List Res} {fc : Hp → Prop} {mn : Mono fc} {df : List Deferred} {t : Tmp} {op : Op} {ty : TypeId} {ps : String} {af : Array Edge}

theorem JL_val (hW : Wide F) {S : St} {S' : St} {v : Value} (hnd : plainB o = true) (hg : o.guard = none) (hs : ∀ h a w, Sat C S h a w → (execOp a.eval o).run P w = .ok (.value v) w) (hS' : ∀ h a w, Sat C S h a w → Sat C S' h (a.put o.dst v) w) (k : JL F P C ops S' l K) : JL F P C ops S (o :: l) K := fun h a w H Q hQ => by
  refine wpListIn_plain hg fun K' hK' => ⟨fun f _ => hW.fn f, ?_⟩
  rw [Oper.semAt_eq _ _ _ (plain_defer hnd), hs h a w H]
  exact hK' _ _ (k h _ w (hS' h a w H) Q hQ)

theorem R_p (hW : Wide F) {v : Value} (hp : Pure P sl ⟨some t, op, ty, ps, af, none⟩ v) (hnd : plainB ⟨some t, op, ty, ps, af, none⟩ = true) (ht : decide (t < C.n) = true)
    (k : JL F P C ops ⟨(t, v) :: sl, res, fc, mn, df⟩ l K) : JL F P C ops ⟨sl, res, fc, mn, df⟩ (⟨some t, op, ty, ps, af, none⟩ :: l) K :=
  JL_val hW hnd rfl (fun h a w H => hp _ H.agr w) (fun h a w H => H.put (some t) v ht) k

theorem R_load (hW : Wide F) {x : Operand} {e : TypeId} {ad : Addr} {v : Value} (hx : evl sl x = some (.pointer (some ad))) (d : TypeDesc) (hu : P.underlying e = some d) (hna : aggB d = false) (ht : decide (t < C.n) = true)
    (hv : ∀ h, fc h → cellH h ad = some v) (k : JL F P C ops ⟨(t, v) :: sl, res, fc, mn, df⟩ l K) : JL F P C ops ⟨sl, res, fc, mn, df⟩ (⟨some t, .load e x, ty, ps, af, none⟩ :: l) K :=
  JL_val hW rfl rfl (fun h a w H => run_load_op rfl (H.agr _ _ hx) (run_loadVar_one hu hna (cellH.cell H.sub (hv h H.facts)))) (fun h a w H => H.put (some t) v ht) k

theorem R_loads (hW : Wide F) {x : Operand} {e : TypeId} {ad : Addr} {cs : List Value} (hx : evl sl x = some (.pointer (some ad))) (d : TypeDesc) (hu : P.underlying e = some d) (hna : aggB d = true) {ti : TypeInfo} (hti : P.info? e = some ti) (hi : ti.size = cs.length) (ht : decide (t < C.n) = true)
    (hv : ∀ h, fc h → ∀ j u, cs[j]? = some u → cellH h (ad.add j) = some u) (k : JL F P C ops ⟨(t, .agg cs.toArray) :: sl, res, fc, mn, df⟩ l K) : JL F P C ops ⟨sl, res, fc, mn, df⟩ (⟨some t, .load e x, ty, ps, af, none⟩ :: l) K :=
  JL_val hW rfl rfl (fun h a w H => run_load_op rfl (H.agr _ _ hx) (run_loadVar_agg hu hna (by simp [hti, hi]) fun j u hj => cellH.cell H.sub (hv h H.facts j u hj))) (fun h a w H => H.put (some t) _ ht) k

theorem R_loadb (hW : Wide F) (i : Nat) {x : Operand} {e tb : TypeId} {b off : Nat} {cs : List Value} {v : Value} (hx : evl sl x = some (.pointer (some ⟨b, off, none⟩))) (hr : res[i]? = some (.box b tb cs)) (d : TypeDesc) (hu : P.underlying e = some d) (hna : aggB d = false) (hv : cs[off]? = some v) (ht : decide (t < C.n) = true)
    (k : JL F P C ops ⟨(t, v) :: sl, res, fc, mn, df⟩ l K) : JL F P C ops ⟨sl, res, fc, mn, df⟩ (⟨some t, .load e x, ty, ps, af, none⟩ :: l) K :=
  JL_val hW rfl rfl (fun h a w H => run_load_op rfl (H.agr _ _ hx) (run_loadVar_one hu hna (by rw [box_cell (H.res _ (List.mem_of_getElem? hr))]; exact hv))) (fun h a w H => H.put (some t) v ht) k

theorem R_loadbs (hW : Wide F) (i : Nat) {x : Operand} {e tb : TypeId} {b off : Nat} {cs vs : List Value} (hx : evl sl x = some (.pointer (some ⟨b, off, none⟩))) (hr : res[i]? = some (.box b tb cs)) (d : TypeDesc) (hu : P.underlying e = some d) (hna : aggB d = true) {ti : TypeInfo} (hti : P.info? e = some ti) (hi : ti.size = vs.length) (hv : (cs.drop off).take vs.length = vs) (ht : decide (t < C.n) = true)
    (k : JL F P C ops ⟨(t, .agg vs.toArray) :: sl, res, fc, mn, df⟩ l K) : JL F P C ops ⟨sl, res, fc, mn, df⟩ (⟨some t, .load e x, ty, ps, af, none⟩ :: l) K :=
  JL_val hW rfl rfl (fun h a w H => run_load_op rfl (H.agr _ _ hx) (run_loadVar_agg hu hna (by simp [hti, hi]) fun j u hj => by
    rw [add_none, box_cell (H.res _ (List.mem_of_getElem? hr))]
    rw [← hv, List.getElem?_take] at hj
    split at hj
    · simpa using hj
    · cases hj)) (fun h a w H => H.put (some t) _ ht) k

theorem R_store (hW : Wide F) (i : Nat) {x y : Operand} {e tb : TypeId} {b off : Nat} {cs vs : List Value} {v : Value} (hx : evl sl x = some (.pointer (some ⟨b, off, none⟩))) (hy : evl sl y = some v) (hr : res[i]? = some (.box b tb cs)) (hv : v.cells = vs.toArray) {ti : TypeInfo} (hti : P.info? e = some ti) (hi : ti.size = vs.length) (hfit : off + vs.length ≤ cs.length) (h1 : vs.all (·.oneCell') = true)
    {cs' : List Value} (hc : cs.take off ++ vs ++ cs.drop (off + vs.length) = cs') {res' : List Res} (hr' : res.set i (.box b tb cs') = res')
    (k : JL F P C ops ⟨sl, res', fc, mn, df⟩ l K) : JL F P C ops ⟨sl, res, fc, mn, df⟩ (⟨none, .store e x y, ty, ps, af, none⟩ :: l) K := fun h a w H Q hQ => by
  subst hr' hc
  have hb := H.res _ (List.mem_of_getElem? hr)
  refine wpListIn_plain rfl fun K' hK' => ⟨fun f _ => hW.fn f, ?_⟩
  rw [Oper.semAt_eq _ _ _ (fun c e => by cases e), run_store_op rfl (H.agr _ _ hx) (H.agr _ _ hy) (run_storeVar_box hb hv (by simp [hti, hi]) hfit h1)]
  exact hK' _ _ (k h _ _ (H.setbox i hr (w' := w.setRow b (cs.take off ++ vs ++ cs.drop (off + vs.length)).toArray) rfl rfl rfl (by simp [World.setRow]) (setRow_heap w b cs.toArray _ tb _ hb) (fun k hk => setRow_other w b k _ hk)) Q hQ)

theorem run_newVar' {w : World} {e : TypeId} {v : Value} {cs : List Value} (hv : v.cells = cs.toArray) : (newVar e v).run P w = .ok ⟨w.heap.size, 0, none⟩ (w.alloc (.cells cs.toArray e)) := by
  unfold newVar
  rw [hv]
  simp [newRow, go_sem]

theorem R_new (hW : Wide F) {S' : Nat → St} {e : TypeId} {cs : List Value} (hnd : plainB ⟨some t, op, ty, ps, af, none⟩ = true) (ht : decide (t < C.n) = true)
    (hr : ∀ ρ, Agr sl ρ → ∀ w, (execOp ρ ⟨some t, op, ty, ps, af, none⟩).run P w = .ok (.value (.pointer (some ⟨w.heap.size, 0, none⟩))) (w.alloc (.cells cs.toArray e)))
    (k : ∀ b, JL F P C ops ⟨(t, .pointer (some ⟨b, 0, none⟩)) :: sl, .box b e cs :: res, fc, mn, df⟩ l K) : JL F P C ops ⟨sl, res, fc, mn, df⟩ (⟨some t, op, ty, ps, af, none⟩ :: l) K := fun h a w H Q hQ => by
  refine wpListIn_plain rfl fun K' hK' => ⟨fun f _ => hW.fn f, ?_⟩
  rw [Oper.semAt_eq _ _ _ (plain_defer hnd), hr _ H.agr w]
  exact hK' _ _ (k w.heap.size h _ _ ((H.newbox e cs).put (some t) _ ht) Q hQ)

theorem R_alloc (hW : Wide F) {e : TypeId} {i : TypeInfo} {z : Value} {cs : List Value} (hi : P.info? e = some i) (hz : i.zero = some z) (hv : z.cells = cs.toArray) (ht : decide (t < C.n) = true)
    (k : ∀ b, JL F P C ops ⟨(t, .pointer (some ⟨b, 0, none⟩)) :: sl, .box b e cs :: res, fc, mn, df⟩ l K) : JL F P C ops ⟨sl, res, fc, mn, df⟩ (⟨some t, .alloc e, ty, ps, af, none⟩ :: l) K :=
  R_new hW (S' := fun _ => ⟨sl, res, fc, mn, df⟩) rfl ht (fun ρ hρ w => by
    have hzv : (zeroValue e).run P w = .ok z w := by simp [zeroValue, typeInfo, hi, hz]
    unfold execOp
    simp [Instr.alloc, hzv, run_newVar' hv]) k

theorem R_box (hW : Wide F) {e : TypeId} {x : Operand} {v : Value} {cs : List Value} (hx : evl sl x = some v) (hv : v.cells = cs.toArray) (ht : decide (t < C.n) = true)
    (k : ∀ b, JL F P C ops ⟨(t, .pointer (some ⟨b, 0, none⟩)) :: sl, .box b e cs :: res, fc, mn, df⟩ l K) : JL F P C ops ⟨sl, res, fc, mn, df⟩ (⟨some t, .box e x, ty, ps, af, none⟩ :: l) K :=
  R_new hW (S' := fun _ => ⟨sl, res, fc, mn, df⟩) rfl ht (fun ρ hρ w => by
    unfold execOp
    simp [Instr.box, hρ _ _ hx, run_newVar' hv]) k

/-! ### Calls -/
theorem R_call (hW : Wide F) {f : FuncId} {xs : Array Operand} {vs : List Value} {ts : Array TypeId} {R rest : List Res} {Fc : Hp → Prop} {φ : Value → List Res → Hp → Prop} (hf : Enters P f)
    (hxs : xs.toList.map (evl sl) = vs.map some) (hc : Ct P f vs.toArray R Fc φ) (hperm : res.Perm (R ++ rest)) (hF : ∀ h, fc h → Fc h) (hm : ∀ v R', Mono (φ v R')) (ht : decide (t < C.n) = true)
    (k : ∀ v R', JL F P C ops ⟨(t, v) :: sl, R' ++ rest, fun h => fc h ∧ φ v R' h, (by have := hm v R'; infer_instance), df⟩ l K) : JL F P C ops ⟨sl, res, fc, mn, df⟩ (⟨some t, .call { callee := .value (.func f), args := xs, argTypes := ts }, ty, ps, af, none⟩ :: l) K := fun h a w H Q hQ => by
  have key : ∀ (l : List Operand) (r : List Value), l.map (evl sl) = r.map some → l.map a.eval = r := by
    intro l
    induction l with
    | nil => intro r hr; cases r <;> simp_all
    | cons x l ih =>
      intro r hr
      cases r with
      | nil => simp at hr
      | cons b r => simp only [List.map_cons, List.cons.injEq] at hr ⊢; exact ⟨H.agr _ _ hr.1, ih r hr.2⟩
  have e1 : xs.map a.eval = vs.toArray := by rw [← key _ _ hxs]; cases xs; simp
  refine wpListIn_plain rfl fun K' hK' => ⟨fun f _ => hW.fn f, ?_⟩
  rw [Oper.semAt_eq _ _ _ (fun c e => by cases e), run_call_op rfl rfl hf, e1]
  refine ⟨fun e => (by rw [hW.depth] at e; cases e), hW.call P _ f _ w _ ?_⟩
  have hmem : ∀ r, r ∈ res ↔ r ∈ R ∨ r ∈ rest := fun r => by rw [hperm.mem_iff, List.mem_append]
  have hap := pair_perm hperm H.apart
  rw [List.pairwise_append] at hap
  refine (hc h w H.sub (hF h H.facts) ⟨fun r hr => H.res r ((hmem r).2 (.inl hr)), hap.1, fun r hr b hb => (H.fresh r ((hmem r).2 (.inl hr)) b hb).1⟩).mono ?_
  rintro e w' ⟨v, R', h', rfl, L⟩
  exact hK' _ _ (k v R' h' _ w' ((H.after hperm L (hm v R')).put (some t) v ht) Q hQ)

theorem R_fn (hW : Wide F) {f : FuncId} {xs : Array Operand} {vs : List Value} {ts : Array TypeId} {Fc : Hp → Prop} {φ : Value → Hp → Prop} (hf : Enters P f)
    (hxs : xs.toList.map (evl sl) = vs.map some) (hc : FnC P f vs.toArray Fc φ) (hF : ∀ h, fc h → Fc h) (hm : ∀ v, Mono (φ v)) (ht : decide (t < C.n) = true)
    (k : ∀ v, JL F P C ops ⟨(t, v) :: sl, res, fun h => fc h ∧ φ v h, (by have := hm v; infer_instance), df⟩ l K) : JL F P C ops ⟨sl, res, fc, mn, df⟩ (⟨some t, .call { callee := .value (.func f), args := xs, argTypes := ts }, ty, ps, af, none⟩ :: l) K := by
  refine R_call hW (rest := res) hf hxs hc (List.Perm.refl _) hF (fun v R' => by have := hm v; infer_instance) ht fun v R' h a w H Q hQ => ?_
  obtain ⟨hf3, rfl, hf4⟩ := H.facts
  exact k v h a w (H.weaken (fun _ _ x => x) rfl rfl (fun _ => ⟨hf3, hf4⟩)) Q hQ

/-- A call whose result is v, nothing more. -/
theorem R_fv (hW : Wide F) {f : FuncId} {xs : Array Operand} {vs : List Value} {ts : Array TypeId} {Fc : Hp → Prop} {u : Value} (hf : Enters P f)
    (hxs : xs.toList.map (evl sl) = vs.map some) (hc : FnC P f vs.toArray Fc (fun v _ => v = u)) (hF : ∀ h, fc h → Fc h) (ht : decide (t < C.n) = true)
    (k : JL F P C ops ⟨(t, u) :: sl, res, fc, mn, df⟩ l K) : JL F P C ops ⟨sl, res, fc, mn, df⟩ (⟨some t, .call { callee := .value (.func f), args := xs, argTypes := ts }, ty, ps, af, none⟩ :: l) K := by
  refine R_fn hW hf hxs hc hF (fun v => inferInstance) ht fun v h a w H Q hQ => ?_
  obtain ⟨h1, h2⟩ := H.facts
  subst h2
  exact k h a w (H.weaken (fun _ _ x => x) rfl rfl (fun _ => h1)) Q hQ

/-! ### Guards -/
theorem R_gy {d : Option Tmp} {j : Nat} {want : Bool} {tg : Tmp} (hj : (ops[j]?).bind (·.dst) = some tg) (hb : lk sl tg = some (.bool want))
    (k : JL F P C ops ⟨sl, res, fc, mn, df⟩ (⟨d, op, ty, ps, af, none⟩ :: l) K) : JL F P C ops ⟨sl, res, fc, mn, df⟩ (⟨d, op, ty, ps, af, some (j, want)⟩ :: l) K :=
  JL_gyes (o := ⟨d, op, ty, ps, af, some (j, want)⟩) rfl hj hb k
theorem R_gn (hW : Wide F) {j : Nat} {want b : Bool} {tg : Tmp} (hj : (ops[j]?).bind (·.dst) = some tg) (hb : lk sl tg = some (.bool b)) (hbw : (b == want) = false) (ht : decide (t < C.n) = true)
    (k : JL F P C ops ⟨(t, undef) :: sl, res, fc, mn, df⟩ l K) : JL F P C ops ⟨sl, res, fc, mn, df⟩ (⟨some t, op, ty, ps, af, some (j, want)⟩ :: l) K :=
  JL_gno (o := ⟨some t, op, ty, ps, af, some (j, want)⟩) hW rfl hj hb ht hbw k
/-- A guard on an operation that was not run. -/
theorem R_gu (hW : Wide F) {j : Nat} {want : Bool} {tg : Tmp} (hj : (ops[j]?).bind (·.dst) = some tg) (hb : lk sl tg = some undef) (ht : decide (t < C.n) = true)
    (k : JL F P C ops ⟨(t, undef) :: sl, res, fc, mn, df⟩ l K) : JL F P C ops ⟨sl, res, fc, mn, df⟩ (⟨some t, op, ty, ps, af, some (j, want)⟩ :: l) K := fun h a w H Q hQ => by
  have hyl : yielded ops a.tmps j = none := by
    unfold yielded
    rw [hj]
    simp [H.slots tg _ hb, undef]
  unfold wpListIn
  rw [if_neg (by simp [Region.wanted, hyl])]
  exact ⟨fun f _ => hW.fn f, k h _ w (H.put (some t) undef ht) Q hQ⟩
/-- The guard's two ways. -/
theorem R_gd (hW : Wide F) {j : Nat} {want b : Bool} {tg : Tmp} (hj : (ops[j]?).bind (·.dst) = some tg) (hb : lk sl tg = some (.bool b)) (ht : decide (t < C.n) = true)
    (hy : b = want → JL F P C ops ⟨(tg, .bool want) :: sl, res, fc, mn, df⟩ (⟨some t, op, ty, ps, af, none⟩ :: l) K) (hn : b = !want → JL F P C ops ⟨(t, undef) :: (tg, .bool (!want)) :: sl, res, fc, mn, df⟩ l K) : JL F P C ops ⟨sl, res, fc, mn, df⟩ (⟨some t, op, ty, ps, af, some (j, want)⟩ :: l) K :=
  JL_guard (o := ⟨some t, op, ty, ps, af, some (j, want)⟩) hW rfl hj hb ht hy hn

/-! ### Conditions, cuts, loops -/
theorem J_ift {c : Operand} {x y : Code} (hc : evl sl c = some (.bool true)) (h : J F P C ⟨sl, res, fc, mn, df⟩ x Φ) : J F P C ⟨sl, res, fc, mn, df⟩ (.cond c x y) Φ := fun hp a w H => wpIn_cond (H.agr _ _ hc) (h hp a w H)
theorem J_iff {c : Operand} {x y : Code} (hc : evl sl c = some (.bool false)) (h : J F P C ⟨sl, res, fc, mn, df⟩ y Φ) : J F P C ⟨sl, res, fc, mn, df⟩ (.cond c x y) Φ := fun hp a w H => wpIn_cond (H.agr _ _ hc) (h hp a w H)
theorem J_if {c : Operand} {x y : Code} {b : Bool} (hc : evl sl c = some (.bool b)) (ht : b = true → J F P C ⟨sl, res, fc, mn, df⟩ x Φ) (hf : b = false → J F P C ⟨sl, res, fc, mn, df⟩ y Φ) : J F P C ⟨sl, res, fc, mn, df⟩ (.cond c x y) Φ := by
  cases b
  · exact J_iff hc (hf rfl)
  · exact J_ift hc (ht rfl)

/-- .. of a slot: what it holds is known from there on. -/
theorem J_ifs {tg : Tmp} {x y : Code} {b : Bool} (hc : lk sl tg = some (.bool b)) (ht : b = true → J F P C ⟨(tg, .bool true) :: sl, res, fc, mn, df⟩ x Φ) (hf : b = false → J F P C ⟨(tg, .bool false) :: sl, res, fc, mn, df⟩ y Φ) : J F P C ⟨sl, res, fc, mn, df⟩ (.cond (.tmp tg) x y) Φ := by
  have say : ∀ h a w, Sat C ⟨sl, res, fc, mn, df⟩ h a w → Sat C ⟨(tg, .bool b) :: sl, res, fc, mn, df⟩ h a w := fun h a w H => H.weaken (S' := ⟨(tg, .bool b) :: sl, res, fc, mn, df⟩) (fun t v hv => by
    simp only [lk] at hv
    split at hv
    · rename_i e; subst e; cases hv; exact hc
    · exact hv) rfl rfl id
  cases b
  · exact fun hp a w H => wpIn_cond (H.agr (.tmp tg) _ hc) (hf rfl hp a w (say _ _ _ H))
  · exact fun hp a w H => wpIn_cond (H.agr (.tmp tg) _ hc) (ht rfl hp a w (say _ _ _ H))

/-- What S says, T says. -/
def Le (C : Ctx) (S T : St) : Prop := ∀ h a w, Sat C S h a w → Sat C T h a w
def subs : List (Nat × Value) → List (Nat × Value) → Prop
  | [], _ => True
  | (t, v) :: r, sl => lk sl t = some v ∧ subs r sl
theorem subs_lk : ∀ {r sl : List (Nat × Value)}, subs r sl → ∀ t v, lk r t = some v → lk sl t = some v
  | [], _, _, _, _, h => by simp [lk] at h
  | (u, x) :: r, sl, hs, t, v, h => by
    simp only [lk] at h
    split at h
    · rename_i e; subst e; simp only [Option.some.injEq] at h; subst h; exact hs.1
    · exact subs_lk hs.2 t v h
theorem Le.mk {S : St} {fc' : Hp → Prop} {mn' : Mono fc'} (hs : subs sl S.slots) (hr : S.res = res) (hd : S.defers = df) (hf : ∀ h, S.facts h → fc' h) : Le C S ⟨sl, res, fc', mn', df⟩ := fun h a w H => H.weaken (subs_lk hs) hr.symm hd.symm (hf h)
theorem J_le {S T : St} {c : Code} (hle : Le C S T) (h : J F P C T c Φ) : J F P C S c Φ := fun hp a w H => h hp a w (hle hp a w H)
/-- One state at the seam. -/
theorem J_mid {S : St} {x y : Code} (T : St) (h1 : J F P C S x (fun e S' => e = .normal ∧ Le C S' T)) (h2 : J F P C T y Φ) : J F P C S (.seq x y) Φ := fun hp a w H => by
  refine wpIn_seq (wpIn_mono (h1 hp a w H) ?_)
  rintro e a' w' ⟨S', h', ⟨rfl, hle⟩, H'⟩
  exact h2 h' a' w' (hle _ _ _ H')
/-- States by an index at the seam; other ends go on. -/
theorem J_mids {S : St} {x y : Code} {ι : Type} (T : ι → St) (h1 : J F P C S x (thenJ (fun S' => ∃ i, Le C S' (T i)) Φ)) (h2 : ∀ i, J F P C (T i) y Φ) : J F P C S (.seq x y) Φ := fun hp a w H => by
  refine wpIn_seq (wpIn_mono (h1 hp a w H) ?_)
  rintro e a' w' ⟨S', h', hΦ, H'⟩
  cases e with
  | normal => obtain ⟨i, hle⟩ := hΦ; exact h2 i h' a' w' (hle _ _ _ H')
  | _ => exact ⟨S', h', hΦ, H'⟩
theorem J_round {S : St} {c : Code} {ι : Type} (T : ι → St) (μ : ι → Nat) (i0 : ι) (h0 : Le C S (T i0))
    (round : ∀ i, J F P C (T i) c (thenJ (fun S' => ∃ j, μ j < μ i ∧ Le C S' (T j)) Φ)) : J F P C S (.loop c) Φ := J_loop T μ i0 h0 round
end
end Go.Hl
