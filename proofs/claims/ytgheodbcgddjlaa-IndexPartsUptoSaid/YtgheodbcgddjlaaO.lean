/- A region that draws its order, reads, and lays one variable of the function's own. -/
import Derived.Test.YtgheodbcgddjlaaS7
set_option linter.unusedVariables false
set_option linter.unusedSimpArgs false
namespace Go.Hl
open Go.RowKit Go.Grow
def oΨ (ka : Nat) (ob : Obj) (n0 : Nat) : Posts := fun k => if k = ka then some (fun _ v w' => ∃ b, v = .pointer (some ⟨b, 0, none⟩) ∧ n0 ≤ b ∧ w'.heap[b]? = some ob) else none
def Om (ka : Nat) (ob : Obj) (n0 : Nat) : List (Nat × World) → Option Nat → Prop
  | [], none => True
  | [p], some b => p.1 = ka ∧ n0 ≤ b ∧ p.2.heap[b]? = some ob
  | _, _ => False
/-- THE WALK: bo: the variable's block, if it is laid by now. -/
def JO (F : Fence) (P : Program) (C : Ctx) (ops : Array Oper) (S0 : St) (ka : Nat) (ob : Obj) (tail : List Oper) (K : St → Prop) (k : Nat) (l : List Oper) (sl : List (Nat × Value)) (bo : Option Nat) : Prop :=
  ∀ h a0 w0, Sat C S0 h a0 w0 → ∀ a gs, a.tmps.size = C.n → a.defers = S0.defers → (∀ t v, lk sl t = some v → a.tmps[t]? = some v) → Om ka ob w0.heap.size gs bo →
    ∀ Q : Exit → Act → World → Prop, (∀ S' h' a' w', K S' → Sat C S' h' a' w' → Q .normal a' w') → wpG P ops (anc ops) (oΨ ka ob w0.heap.size) w0 (fun a w => wpListIn F 0 P ops Q tail a w) l k gs a
section
variable {F : Fence} {P : Program} {C : Ctx} {Φ : Outs} {ops : Array Oper} {S0 : St} {ka : Nat} {ob : Obj} {tail l : List Oper} {K : St → Prop} {k : Nat} {sl : List (Nat × Value)} {bo : Option Nat} {t : Tmp} {op : Op} {ty : TypeId} {ps : String} {af : Array Edge}
theorem J_os (hW : Wide F) {id : Nat} {S : St} {l : List Oper} {y : Code} (n ka : Nat) (ob : Obj) (hm : P.follows .mixedOrders = true) (hB : growB l.toArray n = true) (h : JO F P C l.toArray S ka ob (l.drop n) (fun S' => J F P C S' y Φ) 0 (l.take n) S.slots none) : J F P C S (.seq (.region id l.toArray true) y) Φ :=
  J_seq fun hp a w H => by
    have H' := H.ext (Ext.drew w)
    exact wpIn_region_grow hW.fn hW.depth (fun f args w R hc => hW.call P _ f args w R hc) n (oΨ ka ob w.drew.heap.size) hm hB
      (h hp a w.drew H' a [] H'.size H'.defers H'.slots trivial _ fun S' h' a' w' hk hs => ⟨S', h', hk, hs⟩)
theorem O_val {v : Value} (hk : decide (k ≠ ka) = true) (ht : decide (t < C.n) = true)
    (hr : ∀ h a w, Sat C ⟨sl, S0.res, S0.facts, S0.mono, S0.defers⟩ h a w → (execOp a.eval ⟨some t, op, ty, ps, af, none⟩).run P w = .ok (.value v) w)
    (h : JO F P C ops S0 ka ob tail K (k + 1) l ((t, v) :: sl) bo) : JO F P C ops S0 ka ob tail K k (⟨some t, op, ty, ps, af, none⟩ :: l) sl bo := fun hp a0 w0 H a gs hz hd hs hg Q hQ => by
  refine wpG_quiet (v := v) (wanted_none rfl) (by simp [oΨ, of_decide_eq_true hk]) (fun w hc => ?_) (h hp a0 w0 H (a.put (some t) v) gs (by rw [put_size]; exact hz) hd (put_slots hz ht hs) hg Q hQ)
  have He := H.ext hc.1
  exact hr hp a w ⟨hz, hs, hd, He.os, He.tape, He.output, He.grow, He.keep, He.le0, He.sub, He.new, He.res, He.fresh, He.apart, H.facts⟩
theorem O_p {v : Value} (hp : Pure P sl ⟨some t, op, ty, ps, af, none⟩ v) (hk : decide (k ≠ ka) = true) (ht : decide (t < C.n) = true) (h : JO F P C ops S0 ka ob tail K (k + 1) l ((t, v) :: sl) bo) : JO F P C ops S0 ka ob tail K k (⟨some t, op, ty, ps, af, none⟩ :: l) sl bo :=
  O_val hk ht (fun h a w H => hp _ H.agr w) h
theorem O_load {x : Operand} {e : TypeId} {ad : Addr} {v : Value} (hx : evl sl x = some (.pointer (some ad))) (d : TypeDesc) (hu : P.underlying e = some d) (hna : aggB d = false) (hk : decide (k ≠ ka) = true) (ht : decide (t < C.n) = true)
    (hv : ∀ h, S0.facts h → cellH h ad = some v) (h : JO F P C ops S0 ka ob tail K (k + 1) l ((t, v) :: sl) bo) : JO F P C ops S0 ka ob tail K k (⟨some t, .load e x, ty, ps, af, none⟩ :: l) sl bo :=
  O_val hk ht (fun h a w H => run_load_op rfl (H.agr _ _ hx) (run_loadVar_one hu hna (cellH.cell H.sub (hv h H.facts)))) h
theorem O_alloc {e : TypeId} {ti : TypeInfo} {z : Value} {cs : List Value} (hk : k = ka) (hi : P.info? e = some ti) (hz : ti.zero = some z) (hv : z.cells = cs.toArray) (hob : ob = .cells cs.toArray e (0, 0)) (ht : decide (t < C.n) = true)
    (h : ∀ b, JO F P C ops S0 ka ob tail K (k + 1) l ((t, .pointer (some ⟨b, 0, none⟩)) :: sl) (some b)) : JO F P C ops S0 ka ob tail K k (⟨some t, .alloc e, ty, ps, af, none⟩ :: l) sl none := fun hp a0 w0 H a gs hz' hd hs hg Q hQ => by
  have hgs : gs = [] := by
    cases gs with
    | nil => rfl
    | cons p gs => cases gs <;> exact hg.elim
  subst hgs hk hob
  refine wpG_grow (ψ := fun _ v w' => ∃ b, v = .pointer (some ⟨b, 0, none⟩) ∧ w0.heap.size ≤ b ∧ w'.heap[b]? = some (.cells cs.toArray e (0, 0))) (wanted_none rfl) (by simp [oΨ]) (fun w hcl => ?_) (fun v w' hcl hψ => ?_)
  · show growsUpon P w _ _
    have hzv : (zeroValue e).run P w = .ok z w := by simp [zeroValue, typeInfo, hi, hz]
    have hex : (execOp a.eval ⟨some t, .alloc e, ty, ps, af, none⟩).run P w = .ok (.value (.pointer (some ⟨w.heap.size, 0, none⟩))) (w.alloc (.cells cs.toArray e)) := by
      unfold execOp
      simp [Instr.alloc, hzv, run_newVar' hv]
    rw [hex]
    exact ⟨Ext.alloc _ _, w.heap.size, rfl, hcl.1.size, World.alloc_heap_new w _⟩
  · obtain ⟨b, rfl, hb, hw⟩ := hψ
    exact h b hp a0 w0 H (a.put (some t) (.pointer (some ⟨b, 0, none⟩))) [(k, w')] (by rw [put_size]; exact hz') hd (put_slots hz' ht hs) ⟨rfl, hb, hw⟩ Q hQ
theorem O_nil {b : Nat} {cs : List Value} {e : TypeId} (hob : ob = .cells cs.toArray e (0, 0)) (h : JL F P C ops ⟨sl, .box b e cs :: S0.res, S0.facts, S0.mono, S0.defers⟩ tail K) : JO F P C ops S0 ka ob tail K k [] sl (some b) := fun hp a0 w0 H a gs hz hd hs hg Q hQ => by
  subst hob
  refine wpG_nil fun w he hgs => ?_
  obtain ⟨p, rfl⟩ : ∃ p, gs = [p] := by
    cases gs with
    | nil => exact hg.elim
    | cons p gs => cases gs with
      | nil => exact ⟨p, rfl⟩
      | cons q gs => exact hg.elim
  obtain ⟨_, hb, hw⟩ := hg
  have hbw : w.heap[b]? = some (.cells cs.toArray e (0, 0)) := (Below.block (hgs p (List.mem_singleton.2 rfl)) b (Array.getElem?_eq_some_iff.1 hw).1).trans hw
  have He := H.ext he
  have hnone : hp b = none := by
    cases e : hp b with
    | none => rfl
    | some o => have := (Array.getElem?_eq_some_iff.1 (H.sub b o e)).1; omega
  refine h hp a w ⟨hz, hs, hd, He.os, He.tape, He.output, He.grow, He.keep, He.le0, He.sub, He.new, fun r hr => ?_, fun r hr c hc => ?_, List.pairwise_cons.2 ⟨fun r hr c hc hc' => ?_, He.apart⟩, H.facts⟩ Q hQ
  · rcases List.mem_cons.1 hr with rfl | hr
    · exact hbw
    · exact He.res r hr
  · rcases List.mem_cons.1 hr with rfl | hr
    · simp only [Res.has] at hc; subst hc; exact ⟨hnone, .inl (Nat.le_trans H.grow hb)⟩
    · exact He.fresh r hr c hc
  · simp only [Res.has] at hc; subst hc
    have := Res.holds_lt (H.res r hr) hc'; omega
end
end Go.Hl
