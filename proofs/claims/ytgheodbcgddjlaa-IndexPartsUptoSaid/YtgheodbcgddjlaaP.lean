/- Operations that only reckon: what each yields, by what is known of its operands. -/
import Derived.Test.YtgheodbcgddjlaaH
set_option linter.unusedVariables false
set_option linter.unusedSimpArgs false
namespace Go.Hl
open Go.RowKit Go.Grow

def evl (sl : List (Nat × Value)) : Operand → Option Value
  | .tmp t => lk sl t
  | .const v => some v
  | .global g => some (.pointer (some ⟨g, 0, none⟩))
  | .func f => some (.func (.func f) #[] #[])
def Agr (sl : List (Nat × Value)) (ρ : Operand → Value) : Prop := ∀ x v, evl sl x = some v → ρ x = v
/-- Operation o yields v, wherever its operands are as the list of slots says. -/
def Pure (P : Program) (sl : List (Nat × Value)) (o : Oper) (v : Value) : Prop := ∀ ρ, Agr sl ρ → ∀ w, (execOp ρ o).run P w = .ok (.value v) w

section
variable {P : Program} {sl : List (Nat × Value)} {x y z : Operand} {d : Option Tmp} {ty : TypeId} {ps : String} {af : Array Edge} {gd : Option (Nat × Bool)}

theorem P_move {v : Value} (h : evl sl x = some v) : Pure P sl ⟨d, .move x, ty, ps, af, gd⟩ v := fun ρ hρ w => by unfold execOp; simp [hρ _ _ h]
theorem P_assign {v : Value} (h : evl sl x = some v) : Pure P sl ⟨d, .assign x, ty, ps, af, gd⟩ v := fun ρ hρ w => by unfold execOp; simp [hρ _ _ h]
theorem P_nil {p : Addr} (h : evl sl x = some (.pointer (some p))) : Pure P sl ⟨d, .nilCheck x, ty, ps, af, gd⟩ (.pointer (some p)) := fun ρ hρ w => by unfold execOp; simp [hρ _ _ h]
theorem P_pick {b : Bool} {u v : Value} (hc : evl sl x = some (.bool b)) (h1 : b = true → evl sl y = some u) (h2 : b = false → evl sl z = some v) : Pure P sl ⟨d, .pick x y z, ty, ps, af, gd⟩ (if b then u else v) := fun ρ hρ w => by
  unfold execOp
  cases b
  · simp [hρ _ _ hc, hρ _ _ (h2 rfl), asBool]
  · simp [hρ _ _ hc, hρ _ _ (h1 rfl), asBool]
theorem P_pickt {u : Value} (hc : evl sl x = some (.bool true)) (h1 : evl sl y = some u) : Pure P sl ⟨d, .pick x y z, ty, ps, af, gd⟩ u := P_pick (v := u) hc (fun _ => h1) (fun e => by cases e)
theorem P_pickf {u : Value} (hc : evl sl x = some (.bool false)) (h1 : evl sl z = some u) : Pure P sl ⟨d, .pick x y z, ty, ps, af, gd⟩ u := P_pick (u := u) hc (fun e => by cases e) (fun _ => h1)
theorem P_extract {vs : Array Value} {v : Value} {i : Nat} (h : evl sl x = some (.tuple vs)) (hi : vs[i]? = some v) : Pure P sl ⟨d, .extract x i, ty, ps, af, gd⟩ v := fun ρ hρ w => by
  unfold execOp; simp [hρ _ _ h, Instr.extract, hi]
theorem add_none (b off n : Nat) : (⟨b, off, none⟩ : Addr).add n = ⟨b, off + n, none⟩ := by unfold Addr.add; split <;> simp_all
theorem P_fieldAddr {s : TypeId} {i b off off' : Nat} {fs : Array Field} {f : Field} {ti : TypeInfo} (h : evl sl x = some (.pointer (some ⟨b, off, none⟩))) (hu : P.underlying s = some (.struct fs)) (hf : fs[i]? = some f) (hi : P.info? f.type = some ti) (hz : decide (0 < ti.size) = true) (ho : off + f.offset = off') :
    Pure P sl ⟨d, .fieldAddr s x i, ty, ps, af, gd⟩ (.pointer (some ⟨b, off', none⟩)) := fun ρ hρ w => by
  have hs : (sizeOf f.type).run P w = .ok ti.size w := by simp [sizeOf, typeInfo, hi]
  have hz' : ti.size ≠ 0 := by have := of_decide_eq_true hz; omega
  unfold execOp
  simp only [hρ _ _ h, Sem.run_bind]
  simp [Instr.fieldAt, run_underlying hu, hf, Instr.sureAddr, fieldPlace, hs, add_none, ho, hz']
theorem P_indexAddr {t e : TypeId} {b off n cap : Nat} {k : IntKind} {i : Nat} {z : Nat} (h : evl sl x = some (.slice (some ⟨b, off, none⟩) n cap)) (h2 : evl sl y = some (.int k i)) (hu : P.underlying t = some (.slice e)) {ti : TypeInfo} (hti : P.info? e = some ti) (hz : ti.size = z) (hi : i < n) :
    Pure P sl ⟨d, .indexAddr t x y, ty, ps, af, gd⟩ (.pointer (some ⟨b, off + i * z, none⟩)) := fun ρ hρ w => by
  have hs : (sizeOf e).run P w = .ok z w := by simp [sizeOf, typeInfo, hti, hz]
  unfold execOp
  simp only [hρ _ _ h, hρ _ _ h2, Sem.run_bind]
  simp [Instr.indexAt, run_underlying hu, asIntOf, hs, add_none, hi]
theorem P_indexArr {t e : TypeId} {b off n : Nat} {k : IntKind} {i : Nat} {z : Nat} (h : evl sl x = some (.pointer (some ⟨b, off, none⟩))) (h2 : evl sl y = some (.int k i)) (hu : P.underlying t = some (.array n e)) {ti : TypeInfo} (hti : P.info? e = some ti) (hz : ti.size = z) (hi : i < n) :
    Pure P sl ⟨d, .indexAddr t x y, ty, ps, af, gd⟩ (.pointer (some ⟨b, off + i * z, none⟩)) := fun ρ hρ w => by
  have hs : (sizeOf e).run P w = .ok z w := by simp [sizeOf, typeInfo, hti, hz]
  unfold execOp
  simp only [hρ _ _ h, hρ _ _ h2, Sem.run_bind]
  simp [Instr.indexAt, run_underlying hu, Instr.sureAddr, asIntOf, hs, add_none, hi]
theorem P_not {b : Bool} (h : evl sl x = some (.bool b)) {t : TypeId} : Pure P sl ⟨d, .unOp .not t x, ty, ps, af, gd⟩ (.bool (!b)) := fun ρ hρ w => by
  unfold execOp; simp [hρ _ _ h, Op.unary]
theorem P_len {t : TypeId} {ts : Array TypeId} {p : Option Addr} {n cap : Nat} {e : TypeId} (h : evl sl x = some (.slice p n cap)) (hts : ts = #[t]) (hu : P.underlying t = some (.slice e)) :
    Pure P sl ⟨d, .call { callee := .builtin .len, args := #[x], argTypes := ts }, ty, ps, af, gd⟩ (.int .i64 n) := fun ρ hρ w => by
  subst hts
  unfold execOp; simp [resolve, hρ _ _ h, invoke, go_sem, Builtin.len_, run_underlying hu, goInt]
theorem P_lens {t : TypeId} {ts : Array TypeId} {s : ByteArray} (h : evl sl x = some (.string s)) (hts : ts = #[t]) (hu : P.underlying t = some .string) :
    Pure P sl ⟨d, .call { callee := .builtin .len, args := #[x], argTypes := ts }, ty, ps, af, gd⟩ (.int .i64 s.size) := fun ρ hρ w => by
  subst hts
  unfold execOp; simp [resolve, hρ _ _ h, invoke, go_sem, Builtin.len_, run_underlying hu, goInt]
theorem P_max {ts : Array TypeId} {k k' : IntKind} {a b : Int} (h : evl sl x = some (.int k a)) (h2 : evl sl y = some (.int k' b)) :
    Pure P sl ⟨d, .call { callee := .builtin .max, args := #[x, y], argTypes := ts }, ty, ps, af, gd⟩ (.int k (max a b)) := fun ρ hρ w => by
  unfold execOp; simp [resolve, hρ _ _ h, hρ _ _ h2, invoke, go_sem]
  split <;> omega
theorem P_func {fn : Fn} {first cap : Array Operand} {vs us : List Value} (h1 : first.toList.map (evl sl) = vs.map some) (h2 : cap.toList.map (evl sl) = us.map some) : Pure P sl ⟨d, .makeFunc fn first cap, ty, ps, af, gd⟩ (.func fn vs.toArray us.toArray) := fun ρ hρ w => by
  have key : ∀ (l : List Operand) (r : List Value), l.map (evl sl) = r.map some → l.map ρ = r := by
    intro l
    induction l with
    | nil => intro r hr; cases r <;> simp_all
    | cons a l ih =>
      intro r hr
      cases r with
      | nil => simp at hr
      | cons b r => simp only [List.map_cons, List.cons.injEq] at hr ⊢; exact ⟨hρ _ _ hr.1, ih r hr.2⟩
  have e1 : first.map ρ = vs.toArray := by rw [← key _ _ h1]; cases first; simp
  have e2 : cap.map ρ = us.toArray := by rw [← key _ _ h2]; cases cap; simp
  unfold execOp
  simp [Instr.makeFunc, e1, e2]

/-! two operands -/
variable {t : TypeId} {k : IntKind} {a b : Int}
theorem P_add (h : evl sl x = some (.int k a)) (h2 : evl sl y = some (.int k b)) (c : Int) (hc : k.wrap (a + b) = c) {t' : TypeId} : Pure P sl ⟨d, .binOp .add t x y t', ty, ps, af, gd⟩ (.int k c) := fun ρ hρ w => by
  subst hc; unfold execOp; simp [hρ _ _ h, hρ _ _ h2, go_sem]
theorem P_sub (h : evl sl x = some (.int k a)) (h2 : evl sl y = some (.int k b)) (c : Int) (hc : k.wrap (a - b) = c) {t' : TypeId} : Pure P sl ⟨d, .binOp .sub t x y t', ty, ps, af, gd⟩ (.int k c) := fun ρ hρ w => by
  subst hc; unfold execOp; simp [hρ _ _ h, hρ _ _ h2, go_sem]
theorem P_lss (h : evl sl x = some (.int k a)) (h2 : evl sl y = some (.int k b)) {t' : TypeId} : Pure P sl ⟨d, .binOp .lss t x y t', ty, ps, af, gd⟩ (.bool (decide (a < b))) := fun ρ hρ w => by
  unfold execOp; simp [hρ _ _ h, hρ _ _ h2, go_sem]
theorem P_leq (h : evl sl x = some (.int k a)) (h2 : evl sl y = some (.int k b)) {t' : TypeId} : Pure P sl ⟨d, .binOp .leq t x y t', ty, ps, af, gd⟩ (.bool (decide (a ≤ b))) := fun ρ hρ w => by
  unfold execOp; simp [hρ _ _ h, hρ _ _ h2, go_sem]
theorem P_gtr (h : evl sl x = some (.int k a)) (h2 : evl sl y = some (.int k b)) {t' : TypeId} : Pure P sl ⟨d, .binOp .gtr t x y t', ty, ps, af, gd⟩ (.bool (decide (b < a))) := fun ρ hρ w => by
  unfold execOp; simp [hρ _ _ h, hρ _ _ h2, go_sem]
theorem P_geq (h : evl sl x = some (.int k a)) (h2 : evl sl y = some (.int k b)) {t' : TypeId} : Pure P sl ⟨d, .binOp .geq t x y t', ty, ps, af, gd⟩ (.bool (decide (b ≤ a))) := fun ρ hρ w => by
  unfold execOp; simp [hρ _ _ h, hρ _ _ h2, go_sem]
theorem P_eqi (h : evl sl x = some (.int k a)) (h2 : evl sl y = some (.int k b)) {t' : TypeId} : Pure P sl ⟨d, .binOp .eql t x y t', ty, ps, af, gd⟩ (.bool (decide (a = b))) := fun ρ hρ w => by
  unfold execOp; simp [hρ _ _ h, hρ _ _ h2, go_sem]
  by_cases e : a = b <;> simp [e]
theorem P_nei (h : evl sl x = some (.int k a)) (h2 : evl sl y = some (.int k b)) {t' : TypeId} : Pure P sl ⟨d, .binOp .neq t x y t', ty, ps, af, gd⟩ (.bool (decide (a ≠ b))) := fun ρ hρ w => by
  unfold execOp; simp [hρ _ _ h, hρ _ _ h2, go_sem]
  by_cases e : a = b <;> simp [e]
theorem P_eqn {p : Option Addr} {e : TypeId} (h : evl sl x = some (.pointer p)) (h2 : evl sl y = some (.pointer none)) (hu : P.underlying t = some (.pointer e)) {t' : TypeId} : Pure P sl ⟨d, .binOp .eql t x y t', ty, ps, af, gd⟩ (.bool p.isNone) := fun ρ hρ w => by
  unfold execOp; simp [hρ _ _ h, hρ _ _ h2, go_sem, hu]
theorem P_nen {p : Option Addr} {e : TypeId} (h : evl sl x = some (.pointer p)) (h2 : evl sl y = some (.pointer none)) (hu : P.underlying t = some (.pointer e)) {t' : TypeId} : Pure P sl ⟨d, .binOp .neq t x y t', ty, ps, af, gd⟩ (.bool (!p.isNone)) := fun ρ hρ w => by
  unfold execOp; simp [hρ _ _ h, hρ _ _ h2, go_sem, hu]
theorem P_eqs {s u : ByteArray} (h : evl sl x = some (.string s)) (h2 : evl sl y = some (.string u)) (hu : P.underlying t = some .string) {t' : TypeId} : Pure P sl ⟨d, .binOp .eql t x y t', ty, ps, af, gd⟩ (.bool (s == u)) := fun ρ hρ w => by
  unfold execOp; simp [hρ _ _ h, hρ _ _ h2, go_sem, hu, beq_toListBytes]
theorem P_neb {p q : Bool} (h : evl sl x = some (.bool p)) (h2 : evl sl y = some (.bool q)) (hu : P.underlying t = some .bool) {t' : TypeId} : Pure P sl ⟨d, .binOp .neq t x y t', ty, ps, af, gd⟩ (.bool (p != q)) := fun ρ hρ w => by
  unfold execOp; simp [hρ _ _ h, hρ _ _ h2, go_sem, hu, bne]
end
end Go.Hl
