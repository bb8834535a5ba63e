/- A region that draws its order, whose operations only read or make new memory: one walk of the order of the text serves every order. Conditions: the Bool growB over the region; each operation that makes memory (a call, a new block) has a law that says of its operands and its result alone what it does, and the law abides new memory. -/
import Derived.StillTail
import Derived.OrdersIn
import Derived.Below
import Derived.TacticsIn
import Derived.RangeFuncCalls
import Derived.KernelRfl
import Derived.Deep.Draws
set_option linter.unusedVariables false
set_option linter.unusedSimpArgs false
set_option linter.unusedSectionVars false
namespace Go.Grow
open Go.RowKit

/-- How a world may become another while a region runs. -/
class Rl where
  r : World → World → Prop
  refl : ∀ W, r W W
  trans : ∀ {A B C : World}, r A B → r B C → r A C
def Ext [R : Rl] (W W' : World) : Prop := R.r W W'
theorem Ext.refl [R : Rl] (W : World) : Ext W W := R.refl W
theorem Ext.trans [R : Rl] {A B C : World} (h : Ext A B) (k : Ext B C) : Ext A C := R.trans h k

/-- What becomes of one operation: a value, and a world that keeps all that lay; or a call that ends so. -/
def growsUpon [Rl] (P : Program) (w : World) (ψ : Value → World → Prop) : Result Next → Prop
  | .ok (.value v) w' => Ext w w' ∧ ψ v w'
  | .ok .skip w' => Ext w w' ∧ ψ undef w'
  | .ok (.enter f args) w' => w' = w ∧ Calls P f args w fun e w'' => ∃ v, e = .returned v ∧ Ext w w'' ∧ ψ v w''
  | _ => False

def growsAt [Rl] (P : Program) (o : Oper) (a : Act) (w : World) (ψ : Value → World → Prop) : Prop := growsUpon P w ψ ((execOp a.eval o).run P w)

abbrev Posts := Nat → Option (Array Value → Value → World → Prop)

/-- Does operation k wait for operation i, at once or through others? -/
def anc (ops : Array Oper) (k i : Nat) : Bool := ((Region.before ops).getD k 0).testBit i

def Cls [Rl] (an : Nat → Bool) (W0 : World) (gs : List (Nat × World)) (w : World) : Prop :=
  Ext W0 w ∧ ∀ p ∈ gs, an p.1 = true → Ext p.2 w

/-- THE WALK OF THE ORDER OF THE TEXT. -/
def wpG [Rl] (P : Program) (ops : Array Oper) (an : Nat → Nat → Bool) (Ψ : Posts) (W0 : World) (Q : Act → World → Prop) : List Oper → Nat → List (Nat × World) → Act → Prop
  | [], _, gs, a => ∀ w, Ext W0 w → (∀ p ∈ gs, Ext p.2 w) → Q a w
  | o :: rest, k, gs, a =>
    if Region.wanted o (yielded ops a.tmps) then
      match Ψ k with
      | none => ∃ v, (∀ w, Cls (an k) W0 gs w → (execOp a.eval o).run P w = .ok (.value v) w) ∧ wpG P ops an Ψ W0 Q rest (k + 1) gs (a.put o.dst v)
      | some ψ => (∀ w, Cls (an k) W0 gs w → growsAt P o a w (ψ (o.op.operands.map a.eval))) ∧
          ∀ v w', Cls (an k) W0 gs w' → ψ (o.op.operands.map a.eval) v w' → wpG P ops an Ψ W0 Q rest (k + 1) ((k, w') :: gs) (a.put o.dst v)
    else wpG P ops an Ψ W0 Q rest (k + 1) gs (a.put o.dst undef)

/-! ### The Bool over the region -/

/-- Every edge that binds leads back. -/
def backB (ops : Array Oper) : Bool := ops.toList.zipIdx.all fun (o, j) => o.after.toList.all fun e => !Region.binds .any e || decide (e.on < j)
/-- The table of those that an operation waits for is sound: each row's members come by an edge. -/
def tableB (ops : Array Oper) : Bool := (List.range ops.size).all fun k => (List.range ops.size).all fun i =>
  !anc ops k i || ((ops[k]?).map fun o => o.after.toList.any fun e => Region.binds .any e && (e.on == i || anc ops e.on i)).getD false
/-- Of two operations of the head one waits for the other at once, or they are apart. -/
def pairsB (ops : Array Oper) (n : Nat) : Bool := (List.range n).all fun j => (List.range j).all fun k =>
  match ops[k]?, ops[j]? with
  | some ok, some oj => oj.after.toList.any (fun e => Region.binds .any e && e.on == k) || ok.apart ops oj
  | _, _ => false

def growB (ops : Array Oper) (n : Nat) : Bool :=
  Region.noSelect ops && (ops.toList.all fun o => match o.op with | .defer _ => false | _ => true) && decide (n ≤ ops.size) && backB ops && tableB ops && pairsB ops n &&
  (decide (n = ops.size) || (Region.sinkB .any ops n && Region.chainB .any ops n)) &&
  Region.seqB .any ops (ops.size - n) n ((List.replicate n true ++ List.replicate (ops.size - n) false).toArray)

section
variable {P : Program} {ops : Array Oper} {an : Nat → Nat → Bool} {Ψ : Posts} {W0 : World} {Q : Act → World → Prop} {n : Nat}

/-! ### What an operation looks at -/
def Agree (ops : Array Oper) (o : Oper) (a a' : Act) : Prop := ∀ t ∈ o.looksAt ops, a.tmps[t]? = a'.tmps[t]?

theorem Agree.eval {o : Oper} {a a' : Act} (h : Agree ops o a a') : ∀ x ∈ o.op.operands, a.eval x = a'.eval x := by
  intro x hx
  cases x with
  | tmp t =>
    have ht : t ∈ o.looksAt ops := List.mem_append_left _ (List.mem_filterMap.2 ⟨.tmp t, by simpa using hx, rfl⟩)
    have := h t ht
    simp only [Act.eval, Array.getD_eq_getD_getElem?, this]
  | _ => rfl

theorem Agree.exec {o : Oper} {a a' : Act} (hs : ∀ cs b, o.op ≠ .select cs b) (h : Agree ops o a a') : execOp a.eval o = execOp a'.eval o :=
  execOp_congr o hs h.eval

theorem Agree.args {o : Oper} {a a' : Act} (h : Agree ops o a a') : o.op.operands.map a.eval = o.op.operands.map a'.eval :=
  Array.map_congr_left fun x hx => h.eval x hx

theorem Agree.wanted {o : Oper} {a a' : Act} (h : Agree ops o a a') : Region.wanted o (yielded ops a.tmps) = Region.wanted o (yielded ops a'.tmps) := by
  unfold Region.wanted
  cases hg : o.guard with
  | none => rfl
  | some gw =>
    obtain ⟨g, want⟩ := gw
    have hy : yielded ops a.tmps g = yielded ops a'.tmps g := by
      unfold yielded
      cases ht : (ops[g]?).bind (·.dst) with
      | none => rfl
      | some t =>
        have hm : t ∈ o.looksAt ops := by
          refine List.mem_append_right _ ?_
          simp [hg, ht]
        simp only [Option.bind_some, h t hm]
    simp only [hy]

theorem put_other {a : Act} {d : Option Tmp} {v : Value} {t : Tmp} (h : ∀ x, d = some x → x ≠ t) : (a.put d v).tmps[t]? = a.tmps[t]? := by
  cases d with
  | none => rfl
  | some x => simp [Act.put, Array.getElem?_setIfInBounds_ne (h x rfl)]

theorem put_size (a : Act) (d : Option Tmp) (v : Value) : (a.put d v).tmps.size = a.tmps.size := by
  cases d <;> simp [Act.put]

theorem put_same {a a' : Act} {d : Option Tmp} {v : Value} {t : Tmp} (hz : a.tmps.size = a'.tmps.size) (h : a.tmps[t]? = a'.tmps[t]?) : (a.put d v).tmps[t]? = (a'.put d v).tmps[t]? := by
  cases d with
  | none => exact h
  | some x =>
    by_cases e : x = t
    · subst e; simp [Act.put, Array.getElem?_setIfInBounds, hz]
    · simp [Act.put, Array.getElem?_setIfInBounds_ne e, h]

/-- The frame behind the operations below k of which L says yes, in the order of the text. -/
def puts (ops : Array Oper) (L : Nat → Bool) (σ : Nat → Value) (a : Act) : Nat → Act
  | 0 => a
  | k + 1 => if L k then (puts ops L σ a k).put ((ops[k]?).bind (·.dst)) (σ k) else puts ops L σ a k

theorem puts_succ (L : Nat → Bool) (σ : Nat → Value) (a : Act) (k : Nat) : puts ops L σ a (k + 1) = if L k then (puts ops L σ a k).put ((ops[k]?).bind (·.dst)) (σ k) else puts ops L σ a k := rfl

theorem puts_size (L : Nat → Bool) (σ : Nat → Value) (a : Act) : ∀ k, (puts ops L σ a k).tmps.size = a.tmps.size
  | 0 => rfl
  | k + 1 => by unfold puts; split <;> simp [put_size, puts_size L σ a k]

theorem puts_congr {L : Nat → Bool} {σ σ' : Nat → Value} {a : Act} : ∀ {k}, (∀ i, i < k → L i = true → σ i = σ' i) → puts ops L σ a k = puts ops L σ' a k
  | 0, _ => rfl
  | k + 1, h => by
    unfold puts
    rw [puts_congr (k := k) (fun i hi => h i (by omega))]
    split
    · rename_i hl; rw [h k (by omega) hl]
    · rfl

theorem puts_L {L L' : Nat → Bool} {σ : Nat → Value} {a : Act} : ∀ {k}, (∀ i, i < k → L i = L' i) → puts ops L σ a k = puts ops L' σ a k
  | 0, _ => rfl
  | k + 1, h => by
    unfold puts
    rw [puts_L (k := k) (fun i hi => h i (by omega)), h k (by omega)]

/-- What is behind k, and is not looked at, does not matter. -/
theorem puts_beyond {L : Nat → Bool} {σ : Nat → Value} {a : Act} {o : Oper} {k : Nat} : ∀ {m}, k ≤ m → (∀ i, k ≤ i → i < m → L i = true → ∀ oi, ops[i]? = some oi → ∀ d, oi.dst = some d → d ∉ o.looksAt ops) →
    Agree ops o (puts ops L σ a m) (puts ops L σ a k) := by
  intro m
  induction m with
  | zero => intro h _; obtain rfl : k = 0 := by omega
            exact fun _ _ => rfl
  | succ m ih =>
    intro hk h
    by_cases e : k = m + 1
    · subst e; exact fun _ _ => rfl
    · have ihm := ih (by omega) (fun i h1 h2 => h i h1 (by omega))
      intro t ht
      rw [puts_succ L σ a m]
      split
      · rename_i hl
        rw [put_other ?_]
        · exact ihm t ht
        · intro x hx hxt
          cases ho : ops[m]? with
          | none => simp [ho] at hx
          | some oi =>
            simp only [ho, Option.bind_some] at hx
            exact h m (by omega) (by omega) hl oi ho x hx (hxt ▸ ht)
      · exact ihm t ht

/-- Ahead of k: those that have not come up, and are not looked at, do not matter. -/
theorem puts_ahead {L : Nat → Bool} {σ σ' : Nat → Value} {a : Act} {o : Oper} : ∀ {k}, (∀ i, i < k → L i = true → σ' i = σ i) →
    (∀ i, i < k → L i = false → ∀ oi, ops[i]? = some oi → ∀ d, oi.dst = some d → d ∉ o.looksAt ops) →
    Agree ops o (puts ops L σ a k) (puts ops (fun _ => true) σ' a k)
  | 0, _, _ => fun _ _ => rfl
  | k + 1, h1, h2 => by
    have ih := puts_ahead (a := a) (k := k) (fun i hi => h1 i (by omega)) (fun i hi => h2 i (by omega))
    intro t ht
    rw [puts_succ, puts_succ]
    simp only [if_true]
    cases hl : L k with
    | true =>
      simp only [if_true]
      rw [h1 k (by omega) hl]
      exact put_same (by simp [puts_size]) (ih t ht)
    | false =>
      simp only [Bool.false_eq_true, if_false]
      rw [put_other ?_]
      · exact ih t ht
      · intro x hx hxt
        cases ho : ops[k]? with
        | none => simp [ho] at hx
        | some oi =>
          simp only [ho, Option.bind_some] at hx
          exact h2 k (by omega) hl oi ho x hx (hxt ▸ ht)

/-- One more is put in its place. -/
theorem puts_insert {L : Nat → Bool} {σ : Nat → Value} {a : Act} {j : Nat} {v : Value} (hj : L j = false) : ∀ {k}, j < k →
    (∀ i, j < i → i < k → L i = true → ∀ oi oj, ops[i]? = some oi → ops[j]? = some oj → ∀ d, oj.dst = some d → oi.dst ≠ some d) →
    (puts ops L σ a k).put ((ops[j]?).bind (·.dst)) v = puts ops (fun i => if i = j then true else L i) (fun i => if i = j then v else σ i) a k
  | 0, h, _ => absurd h (Nat.not_lt_zero _)
  | k + 1, hjk, h => by
    by_cases e : j = k
    · subst e
      unfold puts
      simp only [hj, if_true, Bool.false_eq_true, if_false]
      congr 1
      rw [puts_L (L := L) (L' := fun i => if i = j then true else L i) (fun i hi => by simp [Nat.ne_of_lt hi])]
      exact puts_congr (fun i hi _ => by simp [Nat.ne_of_lt hi])
    · have ih := puts_insert (v := v) (σ := σ) (a := a) hj (k := k) (by omega) (fun i h1 h2 => h i h1 (by omega))
      unfold puts
      simp only [if_neg (Ne.symm e)]
      cases hl : L k with
      | false => simpa using ih
      | true =>
        simp only [if_true]
        rw [← ih]
        cases ho : ops[k]? with
        | none => rfl
        | some ok =>
          cases hoj : ops[j]? with
          | none => rfl
          | some oj =>
            simp only [Option.bind_some]
            exact (Act.put_comm (puts ops L σ a k) (σ k) v (fun d hd hd' => h k (by omega) (by omega) hl ok oj ho hoj d hd' hd))

/-! ### The story of a run -/
variable [Rl]

def ClsF (an : Nat → Nat → Bool) (W0 : World) (Wd : Nat → World) (k : Nat) (u : World) : Prop := Ext W0 u ∧ ∀ m, m < k → an k m = true → Ext (Wd m) u

/-- Operation i has come to σ i, in the frame that the text's order has ahead of it; the world right behind it: Wd i. -/
def Good (P : Program) (ops : Array Oper) (an : Nat → Nat → Bool) (Ψ : Posts) (W0 : World) (a0 : Act) (σ : Nat → Value) (Wd : Nat → World) (i : Nat) : Prop :=
  ∀ o, ops[i]? = some o → Ext W0 (Wd i) ∧
    if Region.wanted o (yielded ops (puts ops (fun _ => true) σ a0 i).tmps) then
      match Ψ i with
      | none => ∃ u, ClsF an W0 Wd i u ∧ (execOp (puts ops (fun _ => true) σ a0 i).eval o).run P u = .ok (.value (σ i)) u
      | some ψ => ClsF an W0 Wd i (Wd i) ∧ ψ (o.op.operands.map (puts ops (fun _ => true) σ a0 i).eval) (σ i) (Wd i)
    else σ i = undef

theorem Good.congr {a0 : Act} {σ σ' : Nat → Value} {Wd Wd' : Nat → World} {i : Nat} (h : Good P ops an Ψ W0 a0 σ Wd i) (hσ : ∀ m, m ≤ i → σ' m = σ m) (hW : ∀ m, m ≤ i → Wd' m = Wd m) : Good P ops an Ψ W0 a0 σ' Wd' i := by
  have hp : puts ops (fun _ => true) σ' a0 i = puts ops (fun _ => true) σ a0 i := puts_congr (fun m hm _ => hσ m (by omega))
  intro o ho
  obtain ⟨h1, h2⟩ := h o ho
  refine ⟨by rw [hW i (Nat.le_refl _)]; exact h1, ?_⟩
  rw [hp, hσ i (Nat.le_refl _), hW i (Nat.le_refl _)]
  have hc : ∀ u, ClsF an W0 Wd i u → ClsF an W0 Wd' i u := fun u hu => ⟨hu.1, fun m hm ha => by rw [hW m (by omega)]; exact hu.2 m hm ha⟩
  split
  · rename_i hw
    rw [if_pos hw] at h2
    cases hΨ : Ψ i with
    | none => simp only [hΨ] at h2 ⊢; obtain ⟨u, hu, hr⟩ := h2; exact ⟨u, hc u hu, hr⟩
    | some ψ => simp only [hΨ] at h2 ⊢; exact ⟨hc _ h2.1, h2.2⟩
  · rename_i hw
    rw [if_neg hw] at h2
    exact h2

/-- The walk of the text's order, followed along a story. -/
theorem lex {l : List Oper} (hl : ∀ j, j < l.length → l[j]? = ops[j]?) {a0 : Act} (h : wpG P ops an Ψ W0 Q l 0 [] a0) {σ : Nat → Value} {Wd : Nat → World} :
    ∀ k, k ≤ l.length → (∀ i, i < k → Good P ops an Ψ W0 a0 σ Wd i) →
      ∃ gs : List (Nat × World), (∀ p ∈ gs, p.1 < k ∧ p.2 = Wd p.1) ∧ wpG P ops an Ψ W0 Q (l.drop k) k gs (puts ops (fun _ => true) σ a0 k)
  | 0, _, _ => ⟨[], by simp, by simpa [puts] using h⟩
  | k + 1, hk, hg => by
    obtain ⟨gs, hgs, hw⟩ := lex hl h k (by omega) (fun i hi => hg i (by omega))
    have hlk : l[k]? = ops[k]? := hl k (by omega)
    obtain ⟨o, ho⟩ : ∃ o, l[k]? = some o := ⟨l[k], by simp⟩
    have hd : l.drop k = o :: l.drop (k + 1) := by
      rw [List.drop_eq_getElem_cons (by omega)]
      congr 1
      have := List.getElem?_eq_getElem (l := l) (i := k) (by omega)
      rw [this] at ho
      exact Option.some.inj ho
    have hok : ops[k]? = some o := by rw [← hlk]; exact ho
    obtain ⟨h0, h1⟩ := hg k (by omega) o hok
    rw [hd] at hw
    unfold wpG at hw
    have hput : puts ops (fun _ => true) σ a0 (k + 1) = (puts ops (fun _ => true) σ a0 k).put o.dst (σ k) := by
      show (if true then _ else _) = _
      simp [hok]
    rw [hput]
    split at hw
    · rename_i hwa
      rw [if_pos hwa] at h1
      cases hΨ : Ψ k with
      | none =>
        simp only [hΨ] at h1 hw
        obtain ⟨u, hu, hr⟩ := h1
        obtain ⟨v, hv, hrest⟩ := hw
        have hcls : Cls (an k) W0 gs u := ⟨hu.1, fun p hp ha => by rw [(hgs p hp).2]; exact hu.2 p.1 (hgs p hp).1 ha⟩
        have := hv u hcls
        rw [hr] at this
        obtain rfl : σ k = v := by injection this with h1 h2; injection h1
        exact ⟨gs, fun p hp => ⟨by have := (hgs p hp).1; omega, (hgs p hp).2⟩, hrest⟩
      | some ψ =>
        simp only [hΨ] at h1 hw
        obtain ⟨hu, hψ⟩ := h1
        have hcls : Cls (an k) W0 gs (Wd k) := ⟨hu.1, fun p hp ha => by rw [(hgs p hp).2]; exact hu.2 p.1 (hgs p hp).1 ha⟩
        refine ⟨(k, Wd k) :: gs, fun p hp => ?_, hw.2 _ _ hcls hψ⟩
        rcases List.mem_cons.1 hp with rfl | hp
        · exact ⟨by simp, rfl⟩
        · exact ⟨by have := (hgs p hp).1; omega, (hgs p hp).2⟩
    · rename_i hwa
      rw [if_neg hwa] at h1
      rw [h1]
      exact ⟨gs, fun p hp => ⟨by have := (hgs p hp).1; omega, (hgs p hp).2⟩, hw⟩

/-! ### A state on the way -/

structure Inv (P : Program) (ops : Array Oper) (an : Nat → Nat → Bool) (Ψ : Posts) (W0 : World) (a0 : Act) (n : Nat) (listed : Array Bool) (a : Act) (w : World) (σ : Nat → Value) (Wd : Nat → World) : Prop where
  size : listed.size = ops.size
  closed : ∀ j oj, ops[j]? = some oj → listed.getD j false = true → ∀ e ∈ oj.after, Region.binds .any e = true → listed.getD e.on false = true
  tail : ∀ t, n ≤ t → listed.getD t false = false
  act : a = puts ops (fun i => listed.getD i false) σ a0 n
  ext0 : Ext W0 w
  ext : ∀ i, listed.getD i false = true → Ext (Wd i) w
  good : ∀ i, listed.getD i false = true → ∀ σ' Wd', (∀ m, listed.getD m false = true → σ' m = σ m) → (∀ m, listed.getD m false = true → Wd' m = Wd m) → Good P ops an Ψ W0 a0 σ' Wd' i

/-- The facts of the Bool. -/
structure Fits (ops : Array Oper) (an : Nat → Nat → Bool) (n : Nat) : Prop where
  le : n ≤ ops.size
  sel : ∀ (j : Nat) (o : Oper) cs b, ops[j]? = some o → o.op ≠ .select cs b
  dfr : ∀ (j : Nat) (o : Oper) c, ops[j]? = some o → o.op ≠ .defer c
  back : ∀ j o, ops[j]? = some o → ∀ e ∈ o.after, Region.binds .any e = true → e.on < j
  table : ∀ k i o, ops[k]? = some o → i < ops.size → an k i = true → ∃ e ∈ o.after, Region.binds .any e = true ∧ (e.on = i ∨ an e.on i = true)
  pairs : ∀ k j ok oj, k < j → j < n → ops[k]? = some ok → ops[j]? = some oj → (∀ e ∈ oj.after, Region.binds .any e = true → e.on ≠ k) → ok.apart ops oj = true

/-- All that a ready operation waits for, through others too, have come up. -/
theorem anc_listed (hf : Fits ops an n) {listed : Array Bool} (hc : ∀ j oj, ops[j]? = some oj → listed.getD j false = true → ∀ e ∈ oj.after, Region.binds .any e = true → listed.getD e.on false = true) {k : Nat} {o : Oper} (ho : ops[k]? = some o)
    (hk : ∀ e ∈ o.after, Region.binds .any e = true → listed.getD e.on false = true) : ∀ i, i < ops.size → an k i = true → listed.getD i false = true := by
  induction k using Nat.strongRecOn generalizing o with
  | _ k ih =>
    intro i hi ha
    obtain ⟨e, he, hb, h⟩ := hf.table k i o ho hi ha
    have hl := hk e he hb
    rcases h with rfl | h
    · exact hl
    · have hlt := hf.back k o ho e he hb
      have hks : k < ops.size := (Array.getElem?_eq_some_iff.1 ho).1
      obtain ⟨oe, hoe⟩ : ∃ oe, ops[e.on]? = some oe := ⟨ops[e.on], by simp⟩
      exact ih e.on hlt hoe (fun e' he' hb' => hc e.on oe hoe hl e' he' hb') i hi h

theorem complete {l : List Oper} (hn : l.length = n) (hl : ∀ j, j < l.length → l[j]? = ops[j]?) {a0 : Act} (h : wpG P ops an Ψ W0 Q l 0 [] a0)
    {listed : Array Bool} {a : Act} {w : World} {σ : Nat → Value} {Wd : Nat → World} (inv : Inv P ops an Ψ W0 a0 n listed a w σ Wd) :
    ∀ k, k ≤ n → ∃ (σ' : Nat → Value) (Wd' : Nat → World) (u : World), (∀ m, listed.getD m false = true → σ' m = σ m) ∧ (∀ m, listed.getD m false = true → Wd' m = Wd m) ∧ Ext w u ∧
      ∀ i, i < k → Good P ops an Ψ W0 a0 σ' Wd' i ∧ Ext (Wd' i) u := by
  intro k
  induction k with
  | zero => intro _; exact ⟨σ, Wd, w, fun _ _ => rfl, fun _ _ => rfl, Ext.refl w, fun i hi => absurd hi (Nat.not_lt_zero _)⟩
  | succ k ih =>
    intro hk
    obtain ⟨σ', Wd', u, h1, h2, h3, h4⟩ := ih (by omega)
    cases hlk : listed.getD k false with
    | true =>
      refine ⟨σ', Wd', u, h1, h2, h3, fun i hi => ?_⟩
      by_cases e : i = k
      · subst e
        exact ⟨inv.good i hlk σ' Wd' h1 h2, by rw [h2 i hlk]; exact (inv.ext i hlk).trans h3⟩
      · exact h4 i (by omega)
    | false =>
      obtain ⟨gs, hgs, hw⟩ := lex hl h (σ := σ') (Wd := Wd') k (by omega) (fun i hi => (h4 i hi).1)
      have hlt : k < l.length := by omega
      have hd : l.drop k = l[k] :: l.drop (k + 1) := List.drop_eq_getElem_cons hlt
      have hok : ops[k]? = some l[k] := by rw [← hl k hlt]; simp
      have hcls : Cls (an k) W0 gs u := ⟨inv.ext0.trans h3, fun p hp _ => by rw [(hgs p hp).2]; exact (h4 p.1 (hgs p hp).1).2⟩
      have hclsF : ClsF an W0 Wd' k u := ⟨inv.ext0.trans h3, fun m hm _ => (h4 m hm).2⟩
      rw [hd] at hw
      unfold wpG at hw
      -- the value and the world that are laid for k
      have key : ∃ v W1, Ext u W1 ∧ (∀ o, ops[k]? = some o → Ext W0 W1 ∧ if Region.wanted o (yielded ops (puts ops (fun _ => true) σ' a0 k).tmps) then
          match Ψ k with
          | none => (execOp (puts ops (fun _ => true) σ' a0 k).eval o).run P u = .ok (.value v) u
          | some ψ => ψ (o.op.operands.map (puts ops (fun _ => true) σ' a0 k).eval) v W1
        else v = undef) := by
        split at hw
        · rename_i hwa
          cases hΨ : Ψ k with
          | none =>
            simp only [hΨ] at hw
            obtain ⟨v, hv, _⟩ := hw
            refine ⟨v, u, Ext.refl u, fun o ho => ⟨inv.ext0.trans h3, ?_⟩⟩
            rw [hok] at ho; cases ho
            rw [if_pos hwa]
            exact hv u hcls
          | some ψ =>
            simp only [hΨ] at hw
            have hg := hw.1 u hcls
            have : ∃ v W1, Ext u W1 ∧ ψ (l[k].op.operands.map (puts ops (fun _ => true) σ' a0 k).eval) v W1 := by
              unfold growsAt at hg
              generalize (execOp (puts ops (fun _ => true) σ' a0 k).eval l[k]).run P u = r at hg
              cases r with
              | halt x w' => exact hg.elim
              | ok x w' =>
                cases x <;> try exact hg.elim
                case value v => exact ⟨v, w', hg.1, hg.2⟩
                case skip => exact ⟨undef, w', hg.1, hg.2⟩
                case enter f args =>
                  obtain ⟨e, w'', fr, ⟨v, _, hx, hψ⟩, _⟩ := hg.2 []
                  exact ⟨v, w'', hx, hψ⟩
            obtain ⟨v, W1, hx, hψ⟩ := this
            refine ⟨v, W1, hx, fun o ho => ⟨(inv.ext0.trans h3).trans hx, ?_⟩⟩
            rw [hok] at ho; cases ho
            rw [if_pos hwa]
            exact hψ
        · rename_i hwa
          refine ⟨undef, u, Ext.refl u, fun o ho => ⟨inv.ext0.trans h3, ?_⟩⟩
          rw [hok] at ho; cases ho
          rw [if_neg hwa]
      obtain ⟨v, W1, hx, hkey⟩ := key
      refine ⟨fun i => if i = k then v else σ' i, fun i => if i = k then W1 else Wd' i, W1, fun m hm => ?_, fun m hm => ?_, h3.trans hx, fun i hi => ?_⟩
      · have : m ≠ k := fun e => by subst e; rw [hlk] at hm; cases hm
        simp [this, h1 m hm]
      · have : m ≠ k := fun e => by subst e; rw [hlk] at hm; cases hm
        simp [this, h2 m hm]
      · by_cases e : i = k
        · subst e
          refine ⟨fun o ho => ?_, by simp [Ext.refl]⟩
          obtain ⟨g1, g2⟩ := hkey o ho
          have hp : puts ops (fun _ => true) (fun m => if m = i then v else σ' m) a0 i = puts ops (fun _ => true) σ' a0 i := puts_congr (fun m hm _ => by simp [Nat.ne_of_lt hm])
          refine ⟨by simpa using g1, ?_⟩
          rw [hp]
          have hcF : ∀ x, Ext u x → ClsF an W0 (fun m => if m = i then W1 else Wd' m) i x := fun x hx => ⟨(inv.ext0.trans h3).trans hx, fun m hm ha => by simp only [Nat.ne_of_lt hm, if_false]; exact (hclsF.2 m hm ha).trans hx⟩
          split at g2
          · rename_i hwa
            rw [if_pos hwa]
            cases hΨ : Ψ i with
            | none => simp only [hΨ] at g2 ⊢; exact ⟨u, hcF u (Ext.refl u), by simpa using g2⟩
            | some ψ => simp only [hΨ] at g2 ⊢; exact ⟨by simpa using hcF W1 hx, by simpa using g2⟩
          · rename_i hwa
            rw [if_neg hwa]
            simpa using g2
        · obtain ⟨g1, g2⟩ := h4 i (by omega)
          refine ⟨g1.congr (fun m hm => by simp [show m ≠ k by omega]) (fun m hm => by simp [show m ≠ k by omega]), ?_⟩
          simp only [e, if_false]
          exact g2.trans hx


theorem noapart_dst {x y : Oper} (h : x.apart ops y = true) : (∀ d, x.dst = some d → d ∉ y.looksAt ops) ∧ (∀ d, x.dst = some d → y.dst ≠ some d) ∧ (∀ d, y.dst = some d → d ∉ x.looksAt ops) := Oper.apart_spec h

/-- What is shown of one operation that comes up. -/
def stepRes (P : Program) (ops : Array Oper) (j : Nat) (K : Act → World → Prop) (a : Act) (w : World) : Prop :=
  ∀ o, ops[j]? = some o → if Region.wanted o (yielded ops a.tmps) then
    match (execOp a.eval o).run P w with
    | .ok (.value v) w' => K (a.put o.dst v) w'
    | .ok .skip w' => K (a.put o.dst undef) w'
    | .ok (.enter f args) w' => Calls P f args w' fun e w'' => ∃ v, e = .returned v ∧ K (a.put o.dst v) w''
    | _ => False
  else K (a.put o.dst undef) w

theorem wpOp_of_stepRes {j : Nat} {K : Act → World → Prop} {a : Act} {w : World} {Qx : Exit → Act → World → Prop} (hj : j < ops.size) (h : stepRes P ops j K a w) : wpOp P ops Qx j K a w := by
  have ho : ops[j]? = some ops[j] := by simp [hj]
  have h := h _ ho
  unfold wpOp
  simp only [ho]
  split
  · rename_i hw
    rw [if_pos hw] at h
    refine .inl ?_
    unfold Oper.wp
    generalize (execOp a.eval ops[j]).run P w = r at h
    cases r with
    | halt x w' => exact h.elim
    | ok x w' =>
      cases x <;> try exact h.elim
      case value v => exact h
      case skip => exact h
      case enter f args =>
        simp only [Oper.upon]
        refine Calls.mono h ?_
        rintro e w'' ⟨v, rfl, hk⟩
        exact hk
  · rename_i hw
    rw [if_neg hw] at h
    exact h

theorem wpOpIn_of_stepRes {F : Fence} {m : Nat} (hfn : ∀ f, F.fn f) (hdp : F.depth = none) (hcall : ∀ f args w R, Calls P f args w R → CallsIn F (m - 1) P f args w R)
    (hdf : ∀ (j : Nat) (o : Oper) c, ops[j]? = some o → o.op ≠ .defer c)
    {j : Nat} {K : Act → World → Prop} {a : Act} {w : World} {Qx : Exit → Act → World → Prop} (hj : j < ops.size) (h : stepRes P ops j K a w) : wpOpIn F m P ops Qx j K a w := by
  have ho : ops[j]? = some ops[j] := by simp [hj]
  have h := h _ ho
  unfold wpOpIn
  simp only [ho]
  split
  · rename_i hw
    rw [if_pos hw] at h
    refine ⟨fun f _ => hfn f, ?_⟩
    rw [Oper.semAt_eq _ _ _ (fun c => hdf j _ c ho)]
    generalize (execOp a.eval ops[j]).run P w = r at h
    cases r with
    | halt x w' => exact h.elim
    | ok x w' =>
      cases x <;> try exact h.elim
      case value v => exact h
      case skip => exact h
      case enter f args =>
        refine ⟨fun hd => (by rw [hdp] at hd; cases hd), (hcall f args w' _ h).mono ?_⟩
        rintro e w'' ⟨v, rfl, hk⟩
        exact hk
  · rename_i hw
    rw [if_neg hw] at h
    exact ⟨fun f _ => hfn f, h⟩

/-- ONE STEP: an operation of the head that is ready. -/
theorem step (hf : Fits ops an n) {l : List Oper} (hn : l.length = n) (hl : ∀ j, j < l.length → l[j]? = ops[j]?) {a0 : Act} (h : wpG P ops an Ψ W0 Q l 0 [] a0)
    {listed : Array Bool} {a : Act} {w : World} {σ : Nat → Value} {Wd : Nat → World} (inv : Inv P ops an Ψ W0 a0 n listed a w σ Wd)
    {j : Nat} (hj : j ∈ Region.ready .any ops listed) (hjn : j < n) {K : Act → World → Prop}
    (hK : ∀ a' w' σ' Wd', Inv P ops an Ψ W0 a0 n (listed.setIfInBounds j true) a' w' σ' Wd' → K a' w') : stepRes P ops j K a w := by
  obtain ⟨hun, o, ho, hall⟩ := mem_ready.1 hj
  have hun' : listed.getD j false = false := getD_both hun
  have hjs : j < ops.size := (Array.getElem?_eq_some_iff.1 ho).1
  have hjl : j < listed.size := by rw [inv.size]; exact hjs
  obtain ⟨σ', Wd', u, h1, h2, h3, h4⟩ := complete hn hl h inv j (by omega)
  obtain ⟨gs, hgs, hw⟩ := lex hl h (σ := σ') (Wd := Wd') j (by omega) (fun i hi => (h4 i hi).1)
  have hlt : j < l.length := by omega
  have hd : l.drop j = l[j] :: l.drop (j + 1) := List.drop_eq_getElem_cons hlt
  have hok : l[j] = o := by
    have := hl j hlt
    rw [ho, List.getElem?_eq_getElem hlt] at this
    exact Option.some.inj this
  rw [hd, hok] at hw
  have hanc := anc_listed hf inv.closed ho hall
  -- the frame as it is, and as the text's order has it, are one to this operation
  have agree : ∀ σ'', (∀ i, listed.getD i false = true → σ'' i = σ i) → Agree ops o a (puts ops (fun _ => true) σ'' a0 j) := by
    intro σ'' hσ
    rw [inv.act]
    have p1 := puts_beyond (ops := ops) (L := fun i => listed.getD i false) (σ := σ) (a := a0) (o := o) (k := j) (m := n) (by omega) (fun i hi1 hi2 hli oi hoi d hd => by
      by_cases e : i = j
      · subst e; rw [hun'] at hli; cases hli
      · have hno : ∀ e ∈ oi.after, Region.binds .any e = true → e.on ≠ j := fun e he hb heq => by
          have := inv.closed i oi hoi hli e he hb
          rw [heq, hun'] at this; cases this
        exact (noapart_dst (hf.pairs j i o oi (by omega) hi2 ho hoi hno)).2.2 d hd)
    have p2 := puts_ahead (ops := ops) (L := fun i => listed.getD i false) (σ := σ) (σ' := σ'') (a := a0) (o := o) (k := j) (fun i _ hli => hσ i hli) (fun i hi hli oi hoi d hd => by
      have hno : ∀ e ∈ o.after, Region.binds .any e = true → e.on ≠ i := fun e he hb heq => by
        have := hall e he hb
        rw [heq] at this; rw [this] at hli; cases hli
      exact (noapart_dst (hf.pairs i j oi o hi hjn hoi ho hno)).1 d hd)
    exact fun t ht => (p1 t ht).trans (p2 t ht)
  have ag := agree σ' h1
  have hcls : Cls (an j) W0 gs w := ⟨inv.ext0, fun p hp ha => by
    have hl' := hanc p.1 (by have := (hgs p hp).1; omega) ha
    rw [(hgs p hp).2, h2 _ hl']; exact inv.ext _ hl'⟩
  -- the state behind
  have next : ∀ v W1, Ext w W1 → (∀ A : Act, Agree ops o a A → if Region.wanted o (yielded ops A.tmps) then
        match Ψ j with
        | none => (execOp A.eval o).run P w = .ok (.value v) w
        | some ψ => ψ (o.op.operands.map A.eval) v W1
      else v = undef) → K (a.put o.dst v) W1 := by
    intro v W1 hx hv
    refine hK _ _ (fun i => if i = j then v else σ i) (fun i => if i = j then W1 else Wd i) ⟨?_, ?_, ?_, ?_, ?_, ?_, ?_⟩
    · simp [inv.size]
    · intro i oi hoi hli e he hb
      by_cases hij : j = i
      · subst hij; rw [ho] at hoi; cases hoi; exact getD_set_true (hall e he hb)
      · rw [getD_set_ne false hij] at hli; exact getD_set_true (inv.closed i oi hoi hli e he hb)
    · intro t ht; rw [getD_set_ne false (by omega)]; exact inv.tail t ht
    · have pi := puts_insert (ops := ops) (L := fun i => listed.getD i false) (σ := σ) (a := a0) (j := j) (v := v) hun' (k := n) hjn (fun i hi1 hi2 hli oi oj hoi hoj d hd => by
        have hno : ∀ e ∈ oi.after, Region.binds .any e = true → e.on ≠ j := fun e he hb heq => by
          have := inv.closed i oi hoi hli e he hb
          rw [heq, hun'] at this; cases this
        exact (noapart_dst (hf.pairs j i oj oi (by omega) hi2 hoj hoi hno)).2.1 d hd)
      rw [← inv.act, ho] at pi
      simp only [Option.bind_some] at pi
      rw [pi]
      refine puts_L (fun i hi => ?_)
      by_cases e : i = j
      · subst e; simp [hjl]
      · rw [getD_set_ne false (Ne.symm e)]; simp [e]
    · exact inv.ext0.trans hx
    · intro i hli
      by_cases e : i = j
      · subst e; simp [Ext.refl]
      · rw [getD_set_ne false (Ne.symm e)] at hli
        simp only [e, if_false]
        exact (inv.ext i hli).trans hx
    · intro i hli σ'' Wd'' hσ'' hW''
      have hs1 : ∀ m, listed.getD m false = true → σ'' m = σ m := fun m hm => by
        have hmj : m ≠ j := fun e => by subst e; rw [hun'] at hm; cases hm
        rw [hσ'' m (by rw [getD_set_ne false (Ne.symm hmj)]; exact hm)]; simp [hmj]
      have hs2 : ∀ m, listed.getD m false = true → Wd'' m = Wd m := fun m hm => by
        have hmj : m ≠ j := fun e => by subst e; rw [hun'] at hm; cases hm
        rw [hW'' m (by rw [getD_set_ne false (Ne.symm hmj)]; exact hm)]; simp [hmj]
      by_cases e : i = j
      · subst e
        have e1 : σ'' i = v := by rw [hσ'' i hli]; simp
        have e2 : Wd'' i = W1 := by rw [hW'' i hli]; simp
        intro o' ho'
        rw [ho] at ho'; cases ho'
        have hv' := hv _ (agree σ'' hs1)
        refine ⟨by rw [e2]; exact inv.ext0.trans hx, ?_⟩
        have hcF : ∀ x, Ext w x → ClsF an W0 Wd'' i x := fun x hx' => ⟨inv.ext0.trans hx', fun m hm ha => by
          have hl' := hanc m (by omega) ha
          rw [hs2 m hl']; exact (inv.ext m hl').trans hx'⟩
        split
        · rename_i hwa
          rw [if_pos hwa] at hv'
          cases hΨ : Ψ i with
          | none => simp only [hΨ] at hv' ⊢; exact ⟨w, hcF w (Ext.refl w), by rw [e1]; exact hv'⟩
          | some ψ => simp only [hΨ] at hv' ⊢; exact ⟨by rw [e2]; exact hcF W1 hx, by rw [e1, e2]; exact hv'⟩
        · rename_i hwa
          rw [if_neg hwa] at hv'
          rw [e1]; exact hv'
      · rw [getD_set_ne false (Ne.symm e)] at hli
        exact inv.good i hli σ'' Wd'' hs1 hs2
  intro o' ho'
  rw [ho] at ho'; cases ho'
  unfold wpG at hw
  rw [← ag.wanted, ← ag.exec (fun cs b => hf.sel j o cs b ho), ← ag.args] at hw
  split
  · rename_i hwa
    rw [if_pos hwa] at hw
    cases hΨ : Ψ j with
    | none =>
      simp only [hΨ] at hw
      obtain ⟨v, hv, _⟩ := hw
      have hr := hv w hcls
      rw [hr]
      refine next v w (Ext.refl w) (fun A hA => ?_)
      rw [← hA.wanted, if_pos hwa]
      simp only [hΨ]
      rw [← hA.exec (fun cs b => hf.sel j o cs b ho)]
      exact hr
    | some ψ =>
      simp only [hΨ] at hw
      have hg := hw.1 w hcls
      have hg' : growsUpon P w (ψ (o.op.operands.map a.eval)) ((execOp a.eval o).run P w) := by
        unfold growsAt at hg
        rw [← ag.exec (fun cs b => hf.sel j o cs b ho)] at hg
        exact hg
      have hnext : ∀ v W1, Ext w W1 → ψ (o.op.operands.map a.eval) v W1 → K (a.put o.dst v) W1 := fun v W1 hx hψ => next v W1 hx (fun A hA => by
        rw [← hA.wanted, if_pos hwa]
        simp only [hΨ]
        rw [← hA.args]
        exact hψ)
      generalize (execOp a.eval o).run P w = r at hg'
      cases r with
      | halt x w' => exact hg'.elim
      | ok x w' =>
        cases x <;> try exact hg'.elim
        case value v => exact hnext v w' hg'.1 hg'.2
        case skip => exact hnext undef w' hg'.1 hg'.2
        case enter f args =>
          obtain ⟨rfl, hc⟩ := hg'
          refine hc.mono ?_
          rintro e w'' ⟨v, he, hx, hψ⟩
          exact ⟨v, he, hnext v w'' hx hψ⟩
  · rename_i hwa
    rw [if_neg hwa] at hw
    refine next undef w (Ext.refl w) (fun A hA => ?_)
    rw [← hA.wanted, if_neg hwa]


theorem fits_of_growB {ops : Array Oper} {n : Nat} (h : growB ops n = true) : Fits ops (anc ops) n ∧ Region.noSelect ops = true ∧ (n = ops.size ∨ (Region.sinkB .any ops n = true ∧ Region.chainB .any ops n = true)) ∧
    Region.seqB .any ops (ops.size - n) n ((List.replicate n true ++ List.replicate (ops.size - n) false).toArray) = true := by
  simp only [growB, Bool.and_eq_true, decide_eq_true_eq, Bool.or_eq_true] at h
  obtain ⟨⟨⟨⟨⟨⟨⟨hsel, hdf⟩, hle⟩, hback⟩, htab⟩, hpairs⟩, htail⟩, hseq⟩ := h
  refine ⟨⟨hle, fun j o cs b ho => Region.noSelect_spec hsel j o cs b ho, ?_, ?_, ?_, ?_⟩, hsel, htail, hseq⟩
  · intro j o c ho heq
    have := List.all_eq_true.1 hdf o (by simpa using Array.mem_of_getElem? ho)
    simp [heq] at this
  · intro j o ho e he hb
    have hm : (o, j) ∈ ops.toList.zipIdx := by
      rw [List.mem_zipIdx_iff_getElem?]; simpa using ho
    have h1 := List.all_eq_true.1 hback (o, j) hm
    have h2 := List.all_eq_true.1 h1 e (by simpa using he)
    simpa [hb] using h2
  · intro k i o ho hi ha
    have hk : k < ops.size := (Array.getElem?_eq_some_iff.1 ho).1
    have h1 := List.all_eq_true.1 (List.all_eq_true.1 htab k (List.mem_range.2 hk)) i (List.mem_range.2 hi)
    simp only [ha, Bool.not_true, Bool.false_or, ho, Option.map_some, Option.getD_some] at h1
    obtain ⟨e, he, hb⟩ := List.any_eq_true.1 h1
    simp only [Bool.and_eq_true, Bool.or_eq_true, beq_iff_eq] at hb
    exact ⟨e, by simpa using he, hb.1, hb.2⟩
  · intro k j ok oj hkj hjn hok hoj hno
    have h1 := List.all_eq_true.1 (List.all_eq_true.1 hpairs j (List.mem_range.2 hjn)) k (List.mem_range.2 hkj)
    simp only [hok, hoj, Bool.or_eq_true] at h1
    rcases h1 with h1 | h1
    · obtain ⟨e, he, hb⟩ := List.any_eq_true.1 h1
      simp only [Bool.and_eq_true, beq_iff_eq] at hb
      exact absurd hb.2 (hno e (by simpa using he) hb.1)
    · exact h1

/-- How many of the head have not come up. -/
def left (n : Nat) (listed : Array Bool) : Nat := ((List.range n).filter fun i => !listed.getD i false).length

theorem left_set {n j : Nat} {listed : Array Bool} (hj : j < n) (hjl : j < listed.size) (h : listed.getD j false = false) : left n listed = left n (listed.setIfInBounds j true) + 1 := by
  unfold left
  have key : ∀ l : List Nat, l.Nodup → j ∈ l → (l.filter fun i => !listed.getD i false).length = (l.filter fun i => !(listed.setIfInBounds j true).getD i false).length + 1 := by
    intro l
    induction l with
    | nil => intro _ h; cases h
    | cons x l ih =>
      intro hnd hm
      rw [List.nodup_cons] at hnd
      by_cases e : x = j
      · subst e
        have h1 : (listed.setIfInBounds x true).getD x false = true := by simp [hjl]
        have h2 : (l.filter fun i => !listed.getD i false) = l.filter fun i => !(listed.setIfInBounds x true).getD i false := by
          refine List.filter_congr fun i hi => ?_
          rw [getD_set_ne false (fun e => hnd.1 (by rw [e]; exact hi))]
        simp only [List.filter_cons, h, h1, Bool.not_false, Bool.not_true, if_true, Bool.false_eq_true, if_false, List.length_cons, h2]
      · have hm' : j ∈ l := by
          rcases List.mem_cons.1 hm with e' | h'
          · exact absurd e'.symm e
          · exact h'
        have := ih hnd.2 hm'
        have h1 : (listed.setIfInBounds j true).getD x false = listed.getD x false := getD_set_ne false (Ne.symm e)
        simp only [List.filter_cons, h1]
        split
        · simp only [List.length_cons]; omega
        · exact this
  exact key _ List.nodup_range (List.mem_range.2 hj)

theorem left_zero {n : Nat} {listed : Array Bool} (h : left n listed = 0) : ∀ i, i < n → listed.getD i false = true := by
  intro i hi
  have h0 : ((List.range n).filter fun i => !listed.getD i false) = [] := List.eq_nil_of_length_eq_zero h
  have := (List.filter_eq_nil_iff.1 h0) i (List.mem_range.2 hi)
  simpa using this

theorem listed_all {n : Nat} {listed : Array Bool} {N : Nat} (hs : listed.size = N) (hn : n ≤ N) (h : ∀ i, i < n → listed.getD i false = true) (ht : ∀ t, n ≤ t → listed.getD t false = false) :
    listed = (List.replicate n true ++ List.replicate (N - n) false).toArray := by
  apply Array.ext
  · simp; omega
  · intro i h1 h2
    rcases Nat.lt_or_ge i n with hi | hi
    · have := h i hi
      rw [Array.getD_eq_getD_getElem?, Array.getElem?_eq_getElem h1] at this
      simp only [Option.getD_some] at this
      rw [this]
      simp [hi]
    · have := ht i hi
      rw [Array.getD_eq_getD_getElem?, Array.getElem?_eq_getElem h1] at this
      simp only [Option.getD_some] at this
      rw [this]
      simp [List.getElem_append, Nat.not_lt.2 hi]

section final
variable {P : Program} {ops : Array Oper} {Ψ : Posts} {W0 : World} {n : Nat} {l : List Oper}

/-- No operation behind the head is ready as long as one of the head has not come up; one of the head is. -/
theorem ready_head (hf : Fits ops (anc ops) n) (htail : n = ops.size ∨ (Region.sinkB .any ops n = true ∧ Region.chainB .any ops n = true)) {a0 : Act} {listed : Array Bool} {a : Act} {w : World} {σ : Nat → Value} {Wd : Nat → World}
    (inv : Inv P ops (anc ops) Ψ W0 a0 n listed a w σ Wd) (h : left n listed ≠ 0) : Region.ready .any ops listed ≠ [] ∧ ∀ j ∈ Region.ready .any ops listed, j < n := by
  -- the first one that has not come up
  obtain ⟨i, hi, hli⟩ : ∃ i, i < n ∧ listed.getD i false = false := by
    apply Classical.byContradiction
    intro hno
    apply h
    unfold left
    rw [List.filter_eq_nil_iff.2 (fun i hi => ?_)]
    · rfl
    · have := List.mem_range.1 hi
      cases hc : listed.getD i false with
      | true => simp
      | false => exact absurd ⟨i, this, hc⟩ hno
  have first : ∃ i, i < n ∧ listed.getD i false = false ∧ ∀ k, k < i → listed.getD k false = true := by
    induction i using Nat.strongRecOn with
    | _ i ih =>
      by_cases hk : ∃ k, k < i ∧ listed.getD k false = false
      · obtain ⟨k, hk1, hk2⟩ := hk
        exact ih k hk1 (by omega) hk2
      · refine ⟨i, hi, hli, fun k hk' => ?_⟩
        cases hc : listed.getD k false with
        | true => rfl
        | false => exact absurd ⟨k, hk', hc⟩ hk
  obtain ⟨i0, hi0, hli0, hfirst⟩ := first
  have hi0s : i0 < ops.size := Nat.lt_of_lt_of_le hi0 hf.le
  obtain ⟨o0, ho0⟩ : ∃ o, ops[i0]? = some o := ⟨ops[i0], by simp [hi0s]⟩
  have hmem : i0 ∈ Region.ready .any ops listed := mem_ready.2 ⟨getD_in (by rw [inv.size]; exact hi0s) hli0, o0, ho0, fun e he hb => hfirst _ (hf.back i0 o0 ho0 e he hb)⟩
  refine ⟨fun e => (by rw [e] at hmem; cases hmem), fun j hj => ?_⟩
  rcases Nat.lt_or_ge j n with h' | h'
  · exact h'
  · exfalso
    rcases htail with e | ⟨hs, hc⟩
    · obtain ⟨_, o, ho, _⟩ := mem_ready.1 hj
      have := (Array.getElem?_eq_some_iff.1 ho).1
      omega
    · have hjs : j < ops.size := by
        obtain ⟨_, o, ho, _⟩ := mem_ready.1 hj
        exact (Array.getElem?_eq_some_iff.1 ho).1
      have hinv : HeadInv .any ops n listed := ⟨inv.size, inv.closed, fun t ht hts => getD_in (by rw [inv.size]; exact hts) (inv.tail t ht)⟩
      exact tail_waits hs hc (by omega) hinv _ i0 rfl hi0 (getD_in (by rw [inv.size]; exact hi0s) hli0) j h' hj

theorem head_done (hn : l.length = n) (hl : ∀ j, j < l.length → l[j]? = ops[j]?) {Q : Act → World → Prop} {a0 : Act} (h : wpG P ops (anc ops) Ψ W0 Q l 0 [] a0) {listed : Array Bool} {a : Act} {w : World} {σ : Nat → Value} {Wd : Nat → World}
    (inv : Inv P ops (anc ops) Ψ W0 a0 n listed a w σ Wd) (h0 : left n listed = 0) : Q a w := by
  have hall := left_zero h0
  obtain ⟨gs, hgs, hw⟩ := lex hl h (σ := σ) (Wd := Wd) n (by omega) (fun i hi => inv.good i (hall i hi) σ Wd (fun _ _ => rfl) (fun _ _ => rfl))
  rw [List.drop_eq_nil_of_le (by omega)] at hw
  have ha : a = puts ops (fun _ => true) σ a0 n := by
    rw [inv.act]
    exact puts_L (fun i hi => hall i hi)
  rw [ha]
  exact hw w inv.ext0 (fun p hp => by rw [(hgs p hp).2]; exact inv.ext _ (hall _ (hgs p hp).1))

theorem any_of_grow (hf : Fits ops (anc ops) n) (htail : n = ops.size ∨ (Region.sinkB .any ops n = true ∧ Region.chainB .any ops n = true)) (hseq : Region.seqB .any ops (ops.size - n) n ((List.replicate n true ++ List.replicate (ops.size - n) false).toArray) = true)
    (hn : l.length = n) (hl : ∀ j, j < l.length → l[j]? = ops[j]?) {tl : List Oper} (htl : ∀ j, tl[j]? = ops[n + j]?) (htlen : tl.length = ops.size - n) {Qx : Exit → Act → World → Prop} {a0 : Act}
    (h : wpG P ops (anc ops) Ψ W0 (fun a w => wpList P ops Qx tl a w) l 0 [] a0) :
    ∀ (k : Nat) (listed : Array Bool) (a : Act) (w : World) (σ : Nat → Value) (Wd : Nat → World), Inv P ops (anc ops) Ψ W0 a0 n listed a w σ Wd → left n listed = k → wpAny P .any ops Qx (k + (ops.size - n)) listed a w
  | 0, listed, a, w, σ, Wd, inv, hk => by
    have hlist := listed_all inv.size hf.le (left_zero hk) inv.tail
    have := head_done hn hl h inv hk
    have := wpAny_of_seq (md := .any) (Q' := Qx) tl n listed a w htl (by rw [htlen, hlist]; exact hseq) this
    rw [htlen] at this
    simpa using this
  | k + 1, listed, a, w, σ, Wd, inv, hk => by
    obtain ⟨hne, hlt⟩ := ready_head hf htail inv (by omega)
    rw [show k + 1 + (ops.size - n) = (k + (ops.size - n)) + 1 by omega]
    refine ⟨fun e => absurd e hne, fun j hj => ?_⟩
    have hjn := hlt j hj
    have hun := getD_both (mem_ready.1 hj).1
    refine wpOp_of_stepRes (Nat.lt_of_lt_of_le hjn hf.le) (step hf hn hl h inv hj hjn fun a' w' σ' Wd' inv' => ?_)
    refine any_of_grow hf htail hseq hn hl htl htlen h k _ a' w' σ' Wd' inv' ?_
    have := left_set (n := n) hjn (by rw [inv.size]; exact Nat.lt_of_lt_of_le hjn hf.le) hun
    omega

theorem wpAnyIn_of_seq {F : Fence} {m : Nat} {Q' : Exit → Act → World → Prop} {md : Region.Mode} : ∀ (l : List Oper) (k : Nat) (listed : Array Bool) (a : Act) (w : World), (∀ j, l[j]? = ops[k + j]?) →
    Region.seqB md ops l.length k listed = true → wpListIn F m P ops Q' l a w → wpAnyIn F m P md ops Q' l.length listed a w
  | [], _, _, _, _, _, hB, h => ⟨by simpa [Region.seqB] using hB, h⟩
  | o :: l, k, listed, a, w, hl, hB, h => by
    have h0 : ops[k]? = some o := by simpa using (hl 0).symm
    simp only [List.length_cons, Region.seqB, Bool.and_eq_true, decide_eq_true_eq] at hB
    refine ⟨fun h1 => (by rw [hB.1] at h1; cases h1), fun i hi => ?_⟩
    rw [hB.1] at hi
    have hik : i = k := by simpa using hi
    subst hik
    have hw : wpOpIn F m P ops Q' i (wpListIn F m P ops Q' l) a w := by unfold wpOpIn; simp only [h0]; exact h
    exact wpOpIn_mono (fun a' w' h' => wpAnyIn_of_seq l (i + 1) _ a' w' (fun j => by have := hl (j + 1); simpa [Nat.add_assoc, Nat.add_comm 1 j] using this) hB.2 h') hw

theorem anyIn_of_grow {F : Fence} {m : Nat} (hfn : ∀ f, F.fn f) (hdp : F.depth = none) (hcall : ∀ f args w R, Calls P f args w R → CallsIn F (m - 1) P f args w R)
    (hf : Fits ops (anc ops) n) (htail : n = ops.size ∨ (Region.sinkB .any ops n = true ∧ Region.chainB .any ops n = true)) (hseq : Region.seqB .any ops (ops.size - n) n ((List.replicate n true ++ List.replicate (ops.size - n) false).toArray) = true)
    (hn : l.length = n) (hl : ∀ j, j < l.length → l[j]? = ops[j]?) {tl : List Oper} (htl : ∀ j, tl[j]? = ops[n + j]?) (htlen : tl.length = ops.size - n) {Qx : Exit → Act → World → Prop} {a0 : Act}
    (h : wpG P ops (anc ops) Ψ W0 (fun a w => wpListIn F m P ops Qx tl a w) l 0 [] a0) :
    ∀ (k : Nat) (listed : Array Bool) (a : Act) (w : World) (σ : Nat → Value) (Wd : Nat → World), Inv P ops (anc ops) Ψ W0 a0 n listed a w σ Wd → left n listed = k → wpAnyIn F m P .any ops Qx (k + (ops.size - n)) listed a w
  | 0, listed, a, w, σ, Wd, inv, hk => by
    have hlist := listed_all inv.size hf.le (left_zero hk) inv.tail
    have := head_done hn hl h inv hk
    have := wpAnyIn_of_seq (md := .any) (Q' := Qx) tl n listed a w htl (by rw [htlen, hlist]; exact hseq) this
    rw [htlen] at this
    simpa using this
  | k + 1, listed, a, w, σ, Wd, inv, hk => by
    obtain ⟨hne, hlt⟩ := ready_head hf htail inv (by omega)
    rw [show k + 1 + (ops.size - n) = (k + (ops.size - n)) + 1 by omega]
    refine ⟨fun e => absurd e hne, fun j hj => ?_⟩
    have hjn := hlt j hj
    have hun := getD_both (mem_ready.1 hj).1
    refine wpOpIn_of_stepRes hfn hdp hcall hf.dfr (Nat.lt_of_lt_of_le hjn hf.le) (step hf hn hl h inv hj hjn fun a' w' σ' Wd' inv' => ?_)
    refine anyIn_of_grow hfn hdp hcall hf htail hseq hn hl htl htlen h k _ a' w' σ' Wd' inv' ?_
    have := left_set (n := n) hjn (by rw [inv.size]; exact Nat.lt_of_lt_of_le hjn hf.le) hun
    omega

theorem inv_start {an : Nat → Nat → Bool} (a : Act) (hn : n ≤ ops.size) : Inv P ops an Ψ W0 a n (Array.replicate ops.size false) a W0 (fun _ => undef) (fun _ => W0) := by
  have hno : ∀ i, (Array.replicate ops.size false).getD i false = false := fun i => getD_replicate_false _ _
  refine ⟨by simp, fun j oj _ hl => ?_, fun t _ => hno t, ?_, Ext.refl _, fun i hl => ?_, fun i hl => ?_⟩
  · rw [hno] at hl; cases hl
  · have : ∀ k, puts ops (fun i => (Array.replicate ops.size false).getD i false) (fun _ => undef) a k = a := by
      intro k
      induction k with
      | zero => rfl
      | succ k ih => rw [puts_succ, if_neg (by rw [hno]; simp)]; exact ih
    exact (this n).symm
  · rw [hno] at hl; cases hl
  · rw [hno] at hl; cases hl

theorem left_start {N : Nat} : left n (Array.replicate N false) = n := by
  unfold left
  rw [List.filter_eq_self.2 (fun i _ => by rw [getD_replicate_false]; rfl)]
  simp
end final

/-- **A REGION THAT DRAWS ITS ORDER; its first n operations only read or make memory, the others follow one by one.** -/
theorem wp_region_grow {P : Program} {id : Nat} {l : List Oper} {Q : Exit → Act → World → Prop} {a : Act} {w : World} (n : Nat) (Ψ : Posts) (hm : P.follows .mixedOrders = true) (hB : growB l.toArray n = true)
    (h : wpG P l.toArray (anc l.toArray) Ψ w.drew (fun a w => wpList P l.toArray Q (l.drop n) a w) (l.take n) 0 [] a) : (Code.region id l.toArray true).wp P Q a w := by
  obtain ⟨hf, hsel, htail, hseq⟩ := fits_of_growB hB
  have hle : n ≤ l.length := by simpa using hf.le
  refine wp_region_any hm ?_
  have := any_of_grow hf htail hseq (l := l.take n) (by simp; omega) (fun j hj => by
    have : j < n := by simp at hj; omega
    simp [this]) (tl := l.drop n) (fun j => by simp [List.getElem?_drop]) (by simp) h n _ a w.drew _ _ (inv_start a hf.le) left_start
  rw [show n + (l.toArray.size - n) = l.toArray.size by have := hf.le; omega] at this
  exact this

/-- The same in a round of a loop over a function, or behind the wide fence. -/
theorem wpIn_region_grow {F : Fence} {m : Nat} {P : Program} {id : Nat} {l : List Oper} {Q : Exit → Act → World → Prop} {a : Act} {w : World} (hfn : ∀ f, F.fn f) (hdp : F.depth = none) (hcall : ∀ f args w R, Calls P f args w R → CallsIn F (m - 1) P f args w R)
    (n : Nat) (Ψ : Posts) (hm : P.follows .mixedOrders = true) (hB : growB l.toArray n = true)
    (h : wpG P l.toArray (anc l.toArray) Ψ w.drew (fun a w => wpListIn F m P l.toArray Q (l.drop n) a w) (l.take n) 0 [] a) : (Code.region id l.toArray true).wpIn F m P Q a w := by
  obtain ⟨hf, hsel, htail, hseq⟩ := fits_of_growB hB
  have hle : n ≤ l.length := by simpa using hf.le
  refine wpIn_region_any hm ?_
  have := anyIn_of_grow hfn hdp hcall hf htail hseq (l := l.take n) (by simp; omega) (fun j hj => by
    have : j < n := by simp at hj; omega
    simp [this]) (tl := l.drop n) (fun j => by simp [List.getElem?_drop]) (by simp) h n _ a w.drew _ _ (inv_start a hf.le) left_start
  rw [show n + (l.toArray.size - n) = l.toArray.size by have := hf.le; omega] at this
  exact this

/-! ### The steps of the walk -/
section steps
variable {P : Program} {ops : Array Oper} {an : Nat → Nat → Bool} {Ψ : Posts} {W0 : World} {Q : Act → World → Prop} {o : Oper} {rest : List Oper} {k : Nat} {gs : List (Nat × World)} {a : Act}

theorem wpG_quiet {v : Value} (hw : Region.wanted o (yielded ops a.tmps) = true) (hΨ : Ψ k = none) (hr : ∀ w, Cls (an k) W0 gs w → (execOp a.eval o).run P w = .ok (.value v) w)
    (h : wpG P ops an Ψ W0 Q rest (k + 1) gs (a.put o.dst v)) : wpG P ops an Ψ W0 Q (o :: rest) k gs a := by
  unfold wpG
  rw [if_pos hw, hΨ]
  exact ⟨v, hr, h⟩

theorem wpG_move (x : Operand) (ho : o.op = .move x) (hw : Region.wanted o (yielded ops a.tmps) = true) (hΨ : Ψ k = none)
    (h : wpG P ops an Ψ W0 Q rest (k + 1) gs (a.put o.dst (a.eval x))) : wpG P ops an Ψ W0 Q (o :: rest) k gs a :=
  wpG_quiet hw hΨ (fun w _ => by unfold execOp; rw [ho]; rfl) h

theorem wpG_assign (x : Operand) (ho : o.op = .assign x) (hw : Region.wanted o (yielded ops a.tmps) = true) (hΨ : Ψ k = none)
    (h : wpG P ops an Ψ W0 Q rest (k + 1) gs (a.put o.dst (a.eval x))) : wpG P ops an Ψ W0 Q (o :: rest) k gs a :=
  wpG_quiet hw hΨ (fun w _ => by unfold execOp; rw [ho]; rfl) h

theorem wpG_skip (hw : Region.wanted o (yielded ops a.tmps) = false)
    (h : wpG P ops an Ψ W0 Q rest (k + 1) gs (a.put o.dst undef)) : wpG P ops an Ψ W0 Q (o :: rest) k gs a := by
  unfold wpG
  rw [if_neg (by rw [hw]; simp)]
  exact h

theorem wpG_grow {ψ : Array Value → Value → World → Prop} (hw : Region.wanted o (yielded ops a.tmps) = true) (hΨ : Ψ k = some ψ)
    (hg : ∀ w, Cls (an k) W0 gs w → growsAt P o a w (ψ (o.op.operands.map a.eval)))
    (h : ∀ v w', Cls (an k) W0 gs w' → ψ (o.op.operands.map a.eval) v w' → wpG P ops an Ψ W0 Q rest (k + 1) ((k, w') :: gs) (a.put o.dst v)) : wpG P ops an Ψ W0 Q (o :: rest) k gs a := by
  unfold wpG
  rw [if_pos hw, hΨ]
  exact ⟨hg, h⟩

theorem wpG_nil (h : ∀ w, Ext W0 w → (∀ p ∈ gs, Ext p.2 w) → Q a w) : wpG P ops an Ψ W0 Q [] k gs a := h

/-- A call of a named Go function. -/
theorem growsAt_call {f : FuncId} {xs : Array Operand} {ts : Array TypeId} {w : World} {ψ : Value → World → Prop} (ho : o.op = .call { callee := .value (.func f), args := xs, argTypes := ts }) (hf : (callFunc f (xs.map a.eval)).run P w = .ok (.enter f (xs.map a.eval)) w)
    (h : Calls P f (xs.map a.eval) w fun e w'' => ∃ v, e = .returned v ∧ Ext w w'' ∧ ψ v w'') : growsAt P o a w ψ := by
  unfold growsAt
  have : (execOp a.eval o).run P w = .ok (.enter f (xs.map a.eval)) w := by
    unfold execOp
    rw [ho]
    simp [resolve, Act.eval, invoke, go_sem, hf]
  rw [this]
  exact ⟨rfl, h⟩
end steps

end

/-! ### The way of regions that read or make memory: whatever lay lies as it lay -/
instance belowRl : Rl := ⟨fun W W' => Below W.heap.size W W', fun W => Below.refl _ _, fun h k => Below.trans h (Below.mono k (Below.size h))⟩
theorem Ext.drew (W : World) : Ext W W.drew := (Below.refl _ _).drew
theorem Ext.drewN (W : World) (n : Nat) : Ext W (W.drewN n) := ⟨rfl, rfl, rfl, Nat.le_refl _, fun _ _ => rfl⟩
theorem Ext.alloc (W : World) (o : Obj) : Ext W (W.alloc o) := (Below.refl _ _).alloc (Nat.le_refl _) _
theorem Ext.below {A B : World} (h : Ext A B) : Below A.heap.size A B := h
theorem Ext.cell {A B : World} (h : Ext A B) {p : Addr} {v : Value} (hc : A.cell? p = some v) : B.cell? p = some v := by
  have hlt : p.block < A.heap.size := World.block_lt_of_cell? _ _ hc
  exact (Below.cell h hlt).trans hc
theorem Ext.size {A B : World} (h : Ext A B) : A.heap.size ≤ B.heap.size := Below.size h
#print axioms wp_region_grow
#print axioms wpIn_region_grow

end Go.Grow
