/- Rules on symbolic states: what a walk knows of slots, of memory of its own, and (by predicates on a part of the heap that stays) of all else. -/
import Derived.Test.YtgheodbcgddjlaaGrow
import Derived.Laws.Cells
import Derived.Laws.AppendOwn
import Derived.Laws.CopyRow
import Derived.Laws.Tables
import Derived.WalkKit
import Derived.RangeFuncRecord
set_option linter.unusedVariables false
set_option linter.unusedSimpArgs false
namespace Go.Hl
open Go.RowKit Go.Grow

/-! ### The part of the heap that stays -/
abbrev Hp := Nat → Option Obj
def Hsub (h : Hp) (w : World) : Prop := ∀ b o, h b = some o → w.heap[b]? = some o
def Hle (h h' : Hp) : Prop := ∀ b o, h b = some o → h' b = some o
theorem Hle.refl (h : Hp) : Hle h h := fun _ _ x => x
theorem Hle.trans {a b c : Hp} (h : Hle a b) (k : Hle b c) : Hle a c := fun _ _ x => k _ _ (h _ _ x)
def cellH (h : Hp) (a : Addr) : Option Value :=
  match h a.block with
  | some (.cells c _ _) => if a.spot.isSome then none else c[a.off]?
  | _ => none
theorem cellH.le {h h' : Hp} (k : Hle h h') {a : Addr} {v : Value} (hc : cellH h a = some v) : cellH h' a = some v := by
  unfold cellH at *
  cases hb : h a.block with
  | none => simp [hb] at hc
  | some o => rw [k _ _ hb]; simpa [hb] using hc
theorem cellH.cell {h : Hp} {w : World} (k : Hsub h w) {a : Addr} {v : Value} (hc : cellH h a = some v) : w.cell? a = some v := by
  unfold cellH at hc
  unfold World.cell?
  cases hb : h a.block with
  | none => simp [hb] at hc
  | some o =>
    rw [k _ _ hb]
    rw [hb] at hc
    cases o <;> exact hc

/-- What holds of a part of the heap holds of a greater one. -/
class Mono (F : Hp → Prop) : Prop where
  le : ∀ {h h' : Hp}, Hle h h' → F h → F h'
instance {p : Prop} : Mono (fun _ => p) := ⟨fun _ x => x⟩
instance {F G : Hp → Prop} [Mono F] [Mono G] : Mono (fun h => F h ∧ G h) := ⟨fun k x => ⟨Mono.le k x.1, Mono.le k x.2⟩⟩
instance {F G : Hp → Prop} [Mono F] [Mono G] : Mono (fun h => F h ∨ G h) := ⟨fun k x => x.imp (Mono.le k) (Mono.le k)⟩
instance {α : Sort _} {F : α → Hp → Prop} [∀ x, Mono (F x)] : Mono (fun h => ∃ x, F x h) := ⟨fun k ⟨x, hx⟩ => ⟨x, Mono.le k hx⟩⟩
instance {α : Sort _} {F : α → Hp → Prop} [∀ x, Mono (F x)] : Mono (fun h => ∀ x, F x h) := ⟨fun k hx x => Mono.le k (hx x)⟩
instance {p : Prop} {F : Hp → Prop} [Mono F] : Mono (fun h => p → F h) := ⟨fun k hx x => Mono.le k (hx x)⟩
instance {a : Addr} {v : Value} : Mono (fun h => cellH h a = some v) := ⟨fun k x => cellH.le k x⟩

/-! ### Memory of one's own -/
/-- I speaks of the blocks of U alone (and of the streams). -/
def LocalTo (U : Nat → Prop) (I : World → Prop) : Prop := ∀ w w', I w → w'.os = w.os → w'.tape = w.tape → w'.output = w.output → w.heap.size ≤ w'.heap.size → (∀ b, U b → w'.heap[b]? = w.heap[b]?) → I w'
inductive Res where
  | box (b : Nat) (t : TypeId) (cs : List Value)
  | own (v : Value) (e : TypeId) (size n : Nat) (xs : List Value)
  | obj (b : Nat) (o : Obj)
  | abs (U : Nat → Prop) (I : World → Prop) (loc : LocalTo U I)
def Res.has : Res → Nat → Prop
  | .box b _ _, k => b = k
  | .own v _ _ _ _, k => v.ownBlock = some k
  | .obj b _, k => b = k
  | .abs U _ _, k => U k
def Res.holds (w : World) : Res → Prop
  | .box b t cs => w.heap[b]? = some (.cells cs.toArray t (0, 0))
  | .own v e size n xs => w.ownsRow 0 e size v n xs
  | .obj b o => w.heap[b]? = some o
  | .abs U I _ => (∀ b, U b → b < w.heap.size) ∧ I w
theorem Res.holds_lt {w : World} {r : Res} (h : r.holds w) {b : Nat} (hb : r.has b) : b < w.heap.size := by
  cases r with
  | box b' t cs => simp only [Res.has] at hb; subst hb; exact (Array.getElem?_eq_some_iff.1 h).1
  | own v e size n xs => exact (World.ownsRow.lt h b hb).2
  | obj b' o => simp only [Res.has] at hb; subst hb; exact (Array.getElem?_eq_some_iff.1 h).1
  | abs U I loc => exact h.1 b hb
/-- Of two worlds: the streams are the same, nothing has gone. -/
structure Same (w w' : World) : Prop where
  os : w'.os = w.os
  tape : w'.tape = w.tape
  output : w'.output = w.output
  size : w.heap.size ≤ w'.heap.size
theorem Same.refl (w : World) : Same w w := ⟨rfl, rfl, rfl, Nat.le_refl _⟩
theorem Res.holds_keep {w w' : World} {r : Res} (h : r.holds w) (hs : Same w w') (hk : ∀ b, r.has b → w'.heap[b]? = w.heap[b]?) : r.holds w' := by
  cases r with
  | box b t cs => exact (hk b rfl).trans h
  | own v e size n xs =>
    obtain ⟨h1, h2⟩ := h
    refine ⟨h1, ?_⟩
    rcases h2 with h2 | ⟨g, cap, cur, rfl, hg, hh, rest⟩
    · exact .inl h2
    · exact .inr ⟨g, cap, cur, rfl, hg, (hk g rfl).trans hh, rest⟩
  | obj b o => exact (hk b rfl).trans h
  | abs U I loc => exact ⟨fun b hb => Nat.lt_of_lt_of_le (h.1 b hb) hs.size, loc _ _ h.2 hs.os hs.tape hs.output hs.size hk⟩

/-! ### States -/
structure St where
  slots : List (Nat × Value)
  res : List Res
  facts : Hp → Prop
  mono : Mono facts
  defers : List Deferred

def lk : List (Nat × Value) → Nat → Option Value
  | [], _ => none
  | (t, v) :: l, k => if t = k then some v else lk l k
def St.put (S : St) (d : Option Tmp) (v : Value) : St := match d with
  | some t => { S with slots := (t, v) :: S.slots }
  | none => S
def St.ev (S : St) : Operand → Value
  | .tmp t => (lk S.slots t).getD undef
  | .const v => v
  | .global g => .pointer (some ⟨g, 0, none⟩)
  | .func f => .func (.func f) #[] #[]
def St.known (S : St) : Operand → Bool
  | .tmp t => (lk S.slots t).isSome
  | _ => true

/-- Where a call began: the world, the part of the heap that it was handed, the blocks that it may turn, how many slots it has. -/
structure Ctx where
  W0 : World
  h0 : Hp
  M : Nat → Prop
  n : Nat

structure Sat (C : Ctx) (S : St) (h : Hp) (a : Act) (w : World) : Prop where
  size : a.tmps.size = C.n
  slots : ∀ t v, lk S.slots t = some v → a.tmps[t]? = some v
  defers : a.defers = S.defers
  os : w.os = C.W0.os
  tape : w.tape = C.W0.tape
  output : w.output = C.W0.output
  grow : C.W0.heap.size ≤ w.heap.size
  keep : ∀ k, k < C.W0.heap.size → ¬ C.M k → w.heap[k]? = C.W0.heap[k]?
  le0 : Hle C.h0 h
  sub : Hsub h w
  new : ∀ b o, h b = some o → C.h0 b = some o ∨ C.W0.heap.size ≤ b ∨ C.M b
  res : ∀ r ∈ S.res, r.holds w
  fresh : ∀ r ∈ S.res, ∀ b, r.has b → h b = none ∧ (C.W0.heap.size ≤ b ∨ C.M b)
  apart : S.res.Pairwise fun r r' => ∀ b, r.has b → ¬ r'.has b
  facts : S.facts h

theorem Sat.ev {C : Ctx} {S : St} {h : Hp} {a : Act} {w : World} (H : Sat C S h a w) {x : Operand} (hk : S.known x = true) : a.eval x = S.ev x := by
  cases x with
  | tmp t =>
    simp only [St.known, Option.isSome_iff_exists] at hk
    obtain ⟨v, hv⟩ := hk
    simp [Act.eval, St.ev, hv, H.slots t v hv]
  | _ => rfl

/-- The operands of an operation, as a list that reckons. -/
def ol : Op → List Operand
  | .alloc _ | .ready _ | .waits _ => []
  | .move x | .assign x | .box _ x | .load _ x | .nilCheck x | .unOp _ _ x | .convert _ _ x | .sliceToArrayPointer _ x | .makeInterface _ x
  | .makeChan _ x | .fieldAddr _ x _ | .field _ x _ | .range _ x | .next x _ | .entry x | .typeAssert x _ _ _ | .extract x _ | .panic x | .recv _ x _ => [x]
  | .pick c a b => [c, a, b]
  | .build _ ps | .buildSlice _ _ ps => ps.toList.map (·.2)
  | .store _ a v | .binOp _ _ a v _ | .makeSlice _ a v | .indexAddr _ a v | .index _ a v | .lookup _ a v _ | .mapEntry _ a v | .send a v => [a, v]
  | .makeFunc _ first captured => first.toList ++ captured.toList
  | .makeMap _ r => r.toList
  | .slice _ x l h m => x :: (l.toList ++ h.toList ++ m.toList)
  | .mapUpdate _ m k v | .entryStore _ m k v | .insert _ m k v => [m, k, v]
  | .call c | .go c | .defer c => (match c.callee with | .value f => [f] | .invoke r _ => [r] | .builtin _ => []) ++ c.args.toList
  | .select _ _ => []
theorem mem_ol {op : Op} (hs : ∀ cs b, op ≠ .select cs b) {x : Operand} (hx : x ∈ op.operands) : x ∈ ol op := by
  cases op <;> simp_all [Op.operands, ol]
  all_goals (rename_i c; simp only [Call.operands] at hx; cases hc : c.callee <;> simp_all)

theorem Sat.exec {C : Ctx} {S : St} {h : Hp} {a : Act} {w : World} (H : Sat C S h a w) (o : Oper) (hs : ∀ cs b, o.op ≠ .select cs b) (hk : (ol o.op).all S.known = true) : execOp a.eval o = execOp S.ev o :=
  execOp_congr o hs fun x hx => H.ev (List.all_eq_true.1 hk x (mem_ol hs hx))

def dstOk (C : Ctx) : Option Tmp → Bool
  | some t => decide (t < C.n)
  | none => true

theorem lk_put {S : St} {d : Option Tmp} {v : Value} {t : Nat} {u : Value} (h : lk (S.put d v).slots t = some u) : (d = some t ∧ u = v) ∨ (d ≠ some t ∧ lk S.slots t = some u) := by
  cases d with
  | none => exact .inr ⟨by simp, h⟩
  | some x =>
    simp only [St.put, lk] at h
    split at h
    · rename_i e; subst e; exact .inl ⟨rfl, by simpa using h.symm⟩
    · rename_i e; exact .inr ⟨by simpa using e, h⟩

theorem Sat.put {C : Ctx} {S : St} {h : Hp} {a : Act} {w : World} (H : Sat C S h a w) (d : Option Tmp) (v : Value) (hd : dstOk C d = true) : Sat C (S.put d v) h (a.put d v) w := by
  have hres : (S.put d v).res = S.res := by cases d <;> rfl
  have hdef : (S.put d v).defers = S.defers := by cases d <;> rfl
  have hf : (S.put d v).facts = S.facts := by cases d <;> rfl
  refine ⟨by rw [put_size]; exact H.size, fun t u hu => ?_, ?_, H.os, H.tape, H.output, H.grow, H.keep, H.le0, H.sub, H.new, by rw [hres]; exact H.res, by rw [hres]; exact H.fresh, by rw [hres]; exact H.apart, by rw [hf]; exact H.facts⟩
  · rcases lk_put hu with ⟨rfl, rfl⟩ | ⟨hne, hu'⟩
    · have : t < a.tmps.size := by rw [H.size]; simpa [dstOk] using hd
      simp [Act.put, this]
    · rw [put_other (fun x hx hxt => hne (by rw [hx, hxt]))]
      exact H.slots t u hu'
  · rw [hdef]; cases d <;> exact H.defers

/-- Slots forgotten, facts weakened. -/
theorem Sat.weaken {C : Ctx} {S S' : St} {h : Hp} {a : Act} {w : World} (H : Sat C S h a w) (hsl : ∀ t v, lk S'.slots t = some v → lk S.slots t = some v) (hr : S'.res = S.res) (hd : S'.defers = S.defers) (hf : S.facts h → S'.facts h) : Sat C S' h a w :=
  ⟨H.size, fun t v x => H.slots t v (hsl t v x), by rw [hd]; exact H.defers, H.os, H.tape, H.output, H.grow, H.keep, H.le0, H.sub, H.new, by rw [hr]; exact H.res, by rw [hr]; exact H.fresh, by rw [hr]; exact H.apart, hf H.facts⟩

/-- The fence lets all by: the wide one, or a round within it. -/
structure Wide (F : Fence) : Prop where
  fn : ∀ f, F.fn f
  depth : F.depth = none
  call : ∀ (P : Program) (m : Nat) (f : FuncId) (args : Array Value) (w : World) (R : Ending → World → Prop), Calls P f args w R → CallsIn F m P f args w R
theorem Wide.wide : Wide Fence.wide := ⟨fun _ => trivial, rfl, fun _ _ _ _ _ _ h => callsIn_wide.2 h⟩
theorem Wide.round (l : Nat) : Wide (Fence.wide.inRound l) := ⟨fun _ => trivial, rfl, fun _ _ _ _ _ _ h => CallsIn.inRound l (callsIn_wide.2 h)⟩

abbrev Outs := Exit → St → Prop
def Post (C : Ctx) (Φ : Outs) : Exit → Act → World → Prop := fun e a w => ∃ S h, Φ e S ∧ Sat C S h a w

def J (F : Fence) (P : Program) (C : Ctx) (S : St) (c : Code) (Φ : Outs) : Prop := ∀ h a w, Sat C S h a w → c.wpIn F 0 P (Post C Φ) a w
/-- A list of operations: on to K. -/
def JL (F : Fence) (P : Program) (C : Ctx) (ops : Array Oper) (S : St) (l : List Oper) (K : St → Prop) : Prop :=
  ∀ h a w, Sat C S h a w → ∀ Q : Exit → Act → World → Prop, (∀ S' h' a' w', K S' → Sat C S' h' a' w' → Q .normal a' w') → wpListIn F 0 P ops Q l a w

def thenJ (K : St → Prop) (Φ : Outs) : Outs
  | .normal, S => K S
  | e, S => Φ e S
def blockJ (id : Nat) (Φ : Outs) : Outs
  | .exit id', S => if id' = id then Φ .normal S else Φ (.exit id') S
  | e, S => Φ e S

section
variable {F : Fence} {P : Program} {C : Ctx} {S : St} {Φ : Outs} {ops : Array Oper} {l : List Oper} {o : Oper} {K : St → Prop}

theorem J_seq {x y : Code} (h : J F P C S x (thenJ (fun S' => J F P C S' y Φ) Φ)) : J F P C S (.seq x y) Φ := fun hp a w H => by
  refine wpIn_seq (wpIn_mono (h hp a w H) ?_)
  rintro e a' w' ⟨S', h', hΦ, H'⟩
  cases e <;> first | exact hΦ h' a' w' H' | exact ⟨S', h', hΦ, H'⟩

theorem J_skip (h : Φ .normal S) : J F P C S .skip Φ := fun hp _ _ H => wpIn_skip ⟨S, hp, h, H⟩
theorem J_label {n : Nat} (h : Φ .normal S) : J F P C S (.label n) Φ := fun hp _ _ H => wpIn_label ⟨S, hp, h, H⟩
theorem J_exit {id : Nat} (h : Φ (.exit id) S) : J F P C S (.exit id) Φ := fun hp _ _ H => wpIn_exit ⟨S, hp, h, H⟩
theorem J_ret (h : Φ .ret S) : J F P C S .ret Φ := fun hp _ _ H => wpIn_ret ⟨S, hp, h, H⟩
theorem J_block {id : Nat} {c : Code} (h : J F P C S c (blockJ id Φ)) : J F P C S (.block id c) Φ := fun hp a w H => by
  refine wpIn_block (wpIn_mono (h hp a w H) ?_)
  rintro e a' w' ⟨S', h', hΦ, H'⟩
  cases e with
  | exit id' =>
    simp only [Exit.inBlock, blockJ] at hΦ ⊢
    split
    · rename_i e; rw [if_pos e] at hΦ; exact ⟨S', h', hΦ, H'⟩
    · rename_i e; rw [if_neg e] at hΦ; exact ⟨S', h', hΦ, H'⟩
  | _ => exact ⟨S', h', hΦ, H'⟩
theorem J_cond {c : Operand} {x y : Code} {b : Bool} (hk : S.known c = true) (hc : S.ev c = .bool b) (ht : b = true → J F P C S x Φ) (hf : b = false → J F P C S y Φ) : J F P C S (.cond c x y) Φ := fun hp a w H => by
  have he : a.eval c = .bool b := (H.ev hk).trans hc
  cases b
  · exact wpIn_cond he (hf rfl hp a w H)
  · exact wpIn_cond he (ht rfl hp a w H)
theorem J_cond_true {c : Operand} {x y : Code} (hk : S.known c = true) (hc : S.ev c = .bool true) (h : J F P C S x Φ) : J F P C S (.cond c x y) Φ := J_cond hk hc (fun _ => h) (fun e => by cases e)
theorem J_cond_false {c : Operand} {x y : Code} (hk : S.known c = true) (hc : S.ev c = .bool false) (h : J F P C S y Φ) : J F P C S (.cond c x y) Φ := J_cond hk hc (fun e => by cases e) (fun _ => h)

/-- A region in the order of the text. -/
theorem J_region {id : Nat} {l : List Oper} (h : JL F P C l.toArray S l (fun S' => Φ .normal S')) : J F P C S (.region id l.toArray false) Φ := fun hp a w H =>
  wpIn_region_lit (h hp a w H _ fun S' h' _ _ hk H' => ⟨S', h', hk, H'⟩)

/-- .. and what follows. -/
theorem J_rs {id : Nat} {l : List Oper} {y : Code} (h : JL F P C l.toArray S l (fun S' => J F P C S' y Φ)) : J F P C S (.seq (.region id l.toArray false) y) Φ := J_seq (J_region h)

theorem J_weaken {c : Code} (S' : St) (hsl : ∀ t v, lk S'.slots t = some v → lk S.slots t = some v) (hr : S'.res = S.res) (hd : S'.defers = S.defers) (hf : ∀ h, S.facts h → S'.facts h) (h : J F P C S' c Φ) : J F P C S c Φ := fun hp a w H => h hp a w (H.weaken hsl hr hd (hf hp))

theorem least {p : Nat → Prop} (h : ∃ k, p k) : ∃ k, p k ∧ ∀ m, p m → k ≤ m := by
  obtain ⟨k, hk⟩ := h
  induction k using Nat.strongRecOn with
  | _ k ih =>
    by_cases hm : ∃ m, m < k ∧ p m
    · obtain ⟨m, hm1, hm2⟩ := hm; exact ih m hm1 hm2
    · exact ⟨k, hk, fun m hpm => by rcases Nat.lt_or_ge m k with h' | h'; · exact absurd ⟨m, h', hpm⟩ hm
                                    · exact h'⟩

/-- A loop: states by an index, and a measure. -/
theorem J_loop {c : Code} {ι : Type} (T : ι → St) (μ : ι → Nat) (i0 : ι) (h0 : ∀ h a w, Sat C S h a w → Sat C (T i0) h a w)
    (round : ∀ i, J F P C (T i) c (thenJ (fun S' => ∃ j, μ j < μ i ∧ ∀ h a w, Sat C S' h a w → Sat C (T j) h a w) Φ)) : J F P C S (.loop c) Φ := fun hp a w H => by
  classical
  let p : Act → World → Nat → Prop := fun a w k => ∃ i h, μ i = k ∧ Sat C (T i) h a w
  let m : Act → World → Nat := fun a w => if hx : ∃ k, p a w k then Classical.choose (least hx) else 0
  have hm : ∀ a w k, p a w k → p a w (m a w) ∧ m a w ≤ k := fun a w k hk => by
    have hx : ∃ k, p a w k := ⟨k, hk⟩
    have hs := Classical.choose_spec (least hx)
    simp only [m, dif_pos hx]
    exact ⟨hs.1, hs.2 k hk⟩
  refine wpIn_loop (fun a w => ∃ k, p a w k) m ⟨_, i0, hp, rfl, h0 hp a w H⟩ ?_
  rintro a w ⟨k, hk⟩
  obtain ⟨⟨i, h, hi, Hi⟩, _⟩ := hm a w k hk
  refine wpIn_mono (round i h a w Hi) ?_
  rintro e a' w' ⟨S', h', hΦ, H'⟩
  cases e with
  | normal =>
    obtain ⟨j, hj, hT⟩ := hΦ
    have hpj : p a' w' (μ j) := ⟨j, h', rfl, hT h' a' w' H'⟩
    refine ⟨⟨_, hpj⟩, ?_⟩
    have := (hm a' w' _ hpj).2
    omega
  | _ => exact ⟨S', h', hΦ, H'⟩

/-! ### Operations -/
def plainB (o : Oper) : Bool := match o.op with
  | .defer _ | .select .. => false
  | _ => true
theorem plain_sel (h : plainB o = true) : ∀ cs b, o.op ≠ .select cs b := fun cs b e => by simp [plainB, e] at h
theorem plain_defer (h : plainB o = true) : ∀ c, o.op ≠ .defer c := fun c e => by simp [plainB, e] at h

theorem JL_nil (h : K S) : JL F P C ops S [] K := fun hp a w H Q hQ => hQ S hp a w h H

/-- What an operation that yields a value does to a state. -/
theorem JL_step (hW : Wide F) (hp : plainB o = true) (hg : o.guard = none) (hk : (ol o.op).all S.known = true)
    (hs : ∀ h a w, Sat C S h a w → ∃ v w' h' S', (execOp S.ev o).run P w = .ok (.value v) w' ∧ Sat C S' h' (a.put o.dst v) w' ∧ JL F P C ops S' l K) : JL F P C ops S (o :: l) K := fun h a w H Q hQ => by
  obtain ⟨v, w', h', S', hr, H', hJ⟩ := hs h a w H
  refine wpListIn_plain hg fun K' hK' => ⟨fun f _ => hW.fn f, ?_⟩
  rw [Oper.semAt_eq _ _ _ (plain_defer hp), H.exec o (plain_sel hp) hk, hr]
  exact hK' _ _ (hJ h' _ w' H' Q hQ)

theorem JL_skip_step (hp : plainB o = true) (hg : o.guard = none) (hk : (ol o.op).all S.known = true) (hW : Wide F)
    (hs : ∀ h a w, Sat C S h a w → ∃ w' h' S', (execOp S.ev o).run P w = .ok .skip w' ∧ Sat C S' h' (a.put o.dst undef) w' ∧ JL F P C ops S' l K) : JL F P C ops S (o :: l) K := fun h a w H Q hQ => by
  obtain ⟨w', h', S', hr, H', hJ⟩ := hs h a w H
  refine wpListIn_plain hg fun K' hK' => ⟨fun f _ => hW.fn f, ?_⟩
  rw [Oper.semAt_eq _ _ _ (plain_defer hp), H.exec o (plain_sel hp) hk, hr]
  exact hK' _ _ (hJ h' _ w' H' Q hQ)

/-- An operation that only reckons. -/
theorem JL_pure (hW : Wide F) {v : Value} (hp : plainB o = true) (hg : o.guard = none) (hk : (ol o.op).all S.known = true) (hd : dstOk C o.dst = true) (hr : ∀ w, (execOp S.ev o).run P w = .ok (.value v) w)
    (k : JL F P C ops (S.put o.dst v) l K) : JL F P C ops S (o :: l) K :=
  JL_step hW hp hg hk fun h a w H => ⟨v, w, h, _, hr w, H.put o.dst v hd, k⟩

theorem JL_gyes {j : Nat} {want : Bool} {t : Tmp} (hg : o.guard = some (j, want)) (hj : (ops[j]?).bind (·.dst) = some t) (hb : lk S.slots t = some (.bool want))
    (k : JL F P C ops S ({ o with guard := none } :: l) K) : JL F P C ops S (o :: l) K := fun h a w H Q hQ => by
  have hyl : yielded ops a.tmps j = some want := by
    unfold yielded
    rw [hj]
    simp [H.slots t _ hb]
  have := k h a w H Q hQ
  unfold wpListIn at this ⊢
  rw [if_pos (by simp [Region.wanted, hg, hyl])]
  rw [if_pos (by simp [Region.wanted])] at this
  exact this

theorem JL_gno (hW : Wide F) {j : Nat} {want b : Bool} {t : Tmp} (hg : o.guard = some (j, want)) (hj : (ops[j]?).bind (·.dst) = some t) (hb : lk S.slots t = some (.bool b)) (hd : dstOk C o.dst = true) (hbw : (b == want) = false)
    (k : JL F P C ops (S.put o.dst undef) l K) : JL F P C ops S (o :: l) K := fun h a w H Q hQ => by
  have hyl : yielded ops a.tmps j = some b := by
    unfold yielded
    rw [hj]
    simp [H.slots t _ hb]
  have hw : Region.wanted o (yielded ops a.tmps) = false := by
    simp only [Region.wanted, hg, hyl]
    cases b <;> cases want <;> simp_all
  unfold wpListIn
  rw [if_neg (by rw [hw]; simp)]
  exact ⟨fun f _ => hW.fn f, k h _ w (H.put o.dst undef hd) Q hQ⟩

/-- What is known of a slot, said otherwise. -/
theorem JL_say {t : Tmp} {u v : Value} (hb : lk S.slots t = some u) (e : u = v) (k : JL F P C ops (S.put (some t) v) l K) : JL F P C ops S l K := fun h a w H Q hQ => by
  refine k h a w ?_ Q hQ
  refine ⟨H.size, fun t' v' hv' => ?_, H.defers, H.os, H.tape, H.output, H.grow, H.keep, H.le0, H.sub, H.new, H.res, H.fresh, H.apart, H.facts⟩
  rcases lk_put hv' with ⟨e1, e2⟩ | ⟨_, h'⟩
  · cases e1; subst e2; rw [← e]; exact H.slots t u hb
  · exact H.slots t' v' h'

/-- A guard that is not decided: both ways. -/
theorem JL_guard (hW : Wide F) {j : Nat} {want b : Bool} {t : Tmp} (hg : o.guard = some (j, want)) (hj : (ops[j]?).bind (·.dst) = some t) (hb : lk S.slots t = some (.bool b)) (hd : dstOk C o.dst = true)
    (hy : b = want → JL F P C ops (S.put (some t) (.bool want)) ({ o with guard := none } :: l) K) (hn : b = !want → JL F P C ops ((S.put (some t) (.bool (!want))).put o.dst undef) l K) : JL F P C ops S (o :: l) K := by
  by_cases e : b = want
  · refine JL_say hb (by rw [e]) (JL_gyes hg hj (by simp [St.put, lk]) (hy e))
  · have e' : b = !want := by cases b <;> cases want <;> simp_all
    exact JL_say hb (by rw [e']) (JL_gno (b := !want) hW hg hj (by simp [St.put, lk]) hd (by cases want <;> rfl) (hn e'))

/-! ### Memory -/
def aggB : TypeDesc → Bool
  | .struct _ | .array _ _ => true
  | _ => false

theorem run_isAgg {t : TypeId} {d : TypeDesc} (hu : P.underlying t = some d) (w : World) : (isAgg t).run P w = .ok (aggB d) w := by
  unfold isAgg
  rw [Sem.run_bind, run_underlying hu w]
  cases d <;> simp [aggB]

theorem run_loadVar_one {t : TypeId} {d : TypeDesc} {ad : Addr} {v : Value} {w : World} (hu : P.underlying t = some d) (hd : aggB d = false) (hv : w.cell? ad = some v) : (loadVar t ad).run P w = .ok v w := by
  unfold loadVar
  simp [Sem.run_bind, run_isAgg hu, hd, hv]

theorem run_loadVar_agg {t : TypeId} {d : TypeDesc} {ad : Addr} {cs : List Value} {w : World} (hu : P.underlying t = some d) (hd : aggB d = true) (hi : (P.info? t).map (·.size) = some cs.length)
    (hv : ∀ j u, cs[j]? = some u → w.cell? (ad.add j) = some u) : (loadVar t ad).run P w = .ok (.agg cs.toArray) w := by
  have hl := run_loadCells_list (P := P) w ad cs hv
  cases hq : P.info? t with
  | none => simp [hq] at hi
  | some i =>
    have hs : i.size = cs.length := by simpa [hq] using hi
    unfold loadVar
    simp [Sem.run_bind, run_isAgg hu, hd, sizeOf, typeInfo, hq, hs, hl]

theorem run_load_op {t : TypeId} {x : Operand} {ρ : Operand → Value} {ad : Addr} {v : Value} {w : World} (ho : o.op = .load t x) (hx : ρ x = .pointer (some ad)) (h : (loadVar t ad).run P w = .ok v w) : (execOp ρ o).run P w = .ok (.value v) w := by
  unfold execOp
  simp [ho, hx, Instr.loadAt, Instr.sureAddr, h]

/-- A load of one cell that stays. -/
theorem JL_load (hW : Wide F) {t : TypeId} {x : Operand} {ad : Addr} {v : Value} (d : TypeDesc) (ho : o.op = .load t x) (hg : o.guard = none) (hk : S.known x = true) (hd : dstOk C o.dst = true) (hx : S.ev x = .pointer (some ad)) (hu : P.underlying t = some d) (hna : aggB d = false)
    (hv : ∀ h, S.facts h → cellH h ad = some v) (k : JL F P C ops (S.put o.dst v) l K) : JL F P C ops S (o :: l) K :=
  JL_step hW (by simp [plainB, ho]) hg (by simp [ho, ol, hk]) fun h a w H => ⟨v, w, h, _, run_load_op ho hx (run_loadVar_one hu hna (cellH.cell H.sub (hv h H.facts))), H.put o.dst v hd, k⟩

theorem JL_loads (hW : Wide F) {t : TypeId} {x : Operand} {ad : Addr} {cs : List Value} (d : TypeDesc) (ho : o.op = .load t x) (hg : o.guard = none) (hk : S.known x = true) (hd : dstOk C o.dst = true) (hx : S.ev x = .pointer (some ad)) (hu : P.underlying t = some d) (hna : aggB d = true)
    (hi : (P.info? t).map (·.size) = some cs.length) (hv : ∀ h, S.facts h → ∀ j u, cs[j]? = some u → cellH h (ad.add j) = some u) (k : JL F P C ops (S.put o.dst (.agg cs.toArray)) l K) : JL F P C ops S (o :: l) K :=
  JL_step hW (by simp [plainB, ho]) hg (by simp [ho, ol, hk]) fun h a w H => ⟨_, w, h, _, run_load_op ho hx (run_loadVar_agg hu hna hi fun j u hj => cellH.cell H.sub (hv h H.facts j u hj)), H.put o.dst _ hd, k⟩

theorem box_cell {w : World} {b : Nat} {t : TypeId} {cs : List Value} (h : w.heap[b]? = some (.cells cs.toArray t (0, 0))) (off : Nat) : w.cell? ⟨b, off, none⟩ = cs[off]? := by
  simp [World.cell?, h]

/-- A load out of a box of one's own. -/
theorem JL_loadb (hW : Wide F) (i : Nat) {t tb : TypeId} {x : Operand} {b off : Nat} {cs : List Value} {v : Value} (d : TypeDesc) (ho : o.op = .load t x) (hg : o.guard = none) (hk : S.known x = true) (hd : dstOk C o.dst = true) (hx : S.ev x = .pointer (some ⟨b, off, none⟩))
    (hr : S.res[i]? = some (.box b tb cs)) (hu : P.underlying t = some d) (hna : aggB d = false) (hv : cs[off]? = some v) (k : JL F P C ops (S.put o.dst v) l K) : JL F P C ops S (o :: l) K :=
  JL_step hW (by simp [plainB, ho]) hg (by simp [ho, ol, hk]) fun h a w H => ⟨v, w, h, _, run_load_op ho hx (run_loadVar_one hu hna (by rw [box_cell (H.res _ (List.mem_of_getElem? hr))]; exact hv)), H.put o.dst v hd, k⟩

theorem JL_loadbs (hW : Wide F) (i : Nat) {t tb : TypeId} {x : Operand} {b off : Nat} {cs vs : List Value} (d : TypeDesc) (ho : o.op = .load t x) (hg : o.guard = none) (hk : S.known x = true) (hd : dstOk C o.dst = true) (hx : S.ev x = .pointer (some ⟨b, off, none⟩))
    (hr : S.res[i]? = some (.box b tb cs)) (hu : P.underlying t = some d) (hna : aggB d = true) (hi : (P.info? t).map (·.size) = some vs.length) (hv : ((cs.drop off).take vs.length) = vs) (k : JL F P C ops (S.put o.dst (.agg vs.toArray)) l K) : JL F P C ops S (o :: l) K :=
  JL_step hW (by simp [plainB, ho]) hg (by simp [ho, ol, hk]) fun h a w H => ⟨_, w, h, _, run_load_op ho hx (run_loadVar_agg hu hna hi fun j u hj => by
    have e : (⟨b, off, none⟩ : Addr).add j = ⟨b, off + j, none⟩ := by unfold Addr.add; split <;> simp_all
    rw [e, box_cell (H.res _ (List.mem_of_getElem? hr))]
    rw [← hv, List.getElem?_take] at hj
    split at hj
    · simpa using hj
    · cases hj), H.put o.dst _ hd, k⟩

/-- New memory: a state with one box more. -/
theorem Sat.newbox {h : Hp} {a : Act} {w : World} (H : Sat C S h a w) (t : TypeId) (cs : List Value) : Sat C { S with res := .box w.heap.size t cs :: S.res } h a (w.alloc (.cells cs.toArray t)) := by
  have hnone : h w.heap.size = none := by
    cases hh : h w.heap.size with
    | none => rfl
    | some o => have := H.sub _ _ hh; simp at this
  have old : ∀ k, k < w.heap.size → (w.alloc (.cells cs.toArray t)).heap[k]? = w.heap[k]? := fun k hk => Below.heap_alloc w _ k hk
  refine ⟨H.size, H.slots, H.defers, H.os, H.tape, H.output, by have := H.grow; simp; omega, fun k hk hM => (old k (Nat.lt_of_lt_of_le hk H.grow)).trans (H.keep k hk hM), H.le0, fun b o hb => ?_, H.new, ?_, ?_, ?_, H.facts⟩
  · have := H.sub b o hb
    exact (old b (Array.getElem?_eq_some_iff.1 this).1).trans this
  · intro r hr
    rcases List.mem_cons.1 hr with rfl | hr
    · exact World.alloc_heap_new w _
    · exact Res.holds_keep (H.res r hr) ⟨rfl, rfl, rfl, by simp⟩ fun b hb => old b (Res.holds_lt (H.res r hr) hb)
  · intro r hr b hb
    rcases List.mem_cons.1 hr with rfl | hr
    · simp only [Res.has, Option.some.injEq] at hb; subst hb; exact ⟨hnone, .inl H.grow⟩
    · exact H.fresh r hr b hb
  · refine List.pairwise_cons.2 ⟨fun r hr b hb hb' => ?_, H.apart⟩
    simp only [Res.has, Option.some.injEq] at hb; subst hb
    exact absurd (Res.holds_lt (H.res r hr) hb') (Nat.lt_irrefl _)

/-- A new variable. -/
theorem JL_newp (hW : Wide F) {t : TypeId} {cs : List Value} (hp : plainB o = true) (hg : o.guard = none) (hk : (ol o.op).all S.known = true) (hd : dstOk C o.dst = true)
    (hr : ∀ w, (execOp S.ev o).run P w = .ok (.value (.pointer (some ⟨w.heap.size, 0, none⟩))) (w.alloc (.cells cs.toArray t)))
    (k : ∀ b, JL F P C ops (({ S with res := .box b t cs :: S.res } : St).put o.dst (.pointer (some ⟨b, 0, none⟩))) l K) : JL F P C ops S (o :: l) K :=
  JL_step hW hp hg hk fun h a w H => ⟨_, _, h, _, hr w, (H.newbox t cs).put o.dst _ hd, k w.heap.size⟩

/-- A new row of so many elements. -/
theorem JL_news (hW : Wide F) {t : TypeId} {cs : List Value} {n c : Nat} (hp : plainB o = true) (hg : o.guard = none) (hk : (ol o.op).all S.known = true) (hd : dstOk C o.dst = true)
    (hr : ∀ w, (execOp S.ev o).run P w = .ok (.value (.slice (some ⟨w.heap.size, 0, none⟩) n c)) (w.alloc (.cells cs.toArray t)))
    (k : ∀ b, JL F P C ops (({ S with res := .box b t cs :: S.res } : St).put o.dst (.slice (some ⟨b, 0, none⟩) n c)) l K) : JL F P C ops S (o :: l) K :=
  JL_step hW hp hg hk fun h a w H => ⟨_, _, h, _, hr w, (H.newbox t cs).put o.dst _ hd, k w.heap.size⟩

/-- A store into a box of one's own. -/
theorem Sat.setbox {h : Hp} {a : Act} {w : World} (H : Sat C S h a w) (i : Nat) {b : Nat} {t : TypeId} {cs cs' : List Value} (hr : S.res[i]? = some (.box b t cs)) {w' : World}
    (hos : w'.os = w.os) (htape : w'.tape = w.tape) (hout : w'.output = w.output) (hsz : w'.heap.size = w.heap.size) (hb : w'.heap[b]? = some (.cells cs'.toArray t (0, 0))) (hk : ∀ k, k ≠ b → w'.heap[k]? = w.heap[k]?) :
    Sat C { S with res := S.res.set i (.box b t cs') } h a w' := by
  have hm := List.mem_of_getElem? hr
  have hi : i < S.res.length := (List.getElem?_eq_some_iff.1 hr).1
  have hfr := H.fresh _ hm b rfl
  have hap : ∀ (j : Nat) (r : Res), S.res[j]? = some r → j ≠ i → ¬ r.has b := by
    intro j r hj hne hrb
    have hp := List.pairwise_iff_getElem.1 H.apart
    have hjl : j < S.res.length := (List.getElem?_eq_some_iff.1 hj).1
    have ej : S.res[j] = r := (List.getElem?_eq_some_iff.1 hj).2
    have ei : S.res[i] = .box b t cs := (List.getElem?_eq_some_iff.1 hr).2
    rcases Nat.lt_or_gt_of_ne hne with h1 | h1
    · exact hp j i hjl hi h1 b (by rw [ej]; exact hrb) (by rw [ei]; rfl)
    · exact hp i j hi hjl h1 b (by rw [ei]; rfl) (by rw [ej]; exact hrb)
  have blk : (S.res.set i (.box b t cs')).map Res.has = S.res.map Res.has := by
    rw [List.map_set]
    apply List.ext_getElem?
    intro j
    rw [List.getElem?_set]
    split
    · rename_i e; subst e; simp [hi, hr, (List.getElem?_eq_some_iff.1 hr).2]; rfl
    · rfl
  refine ⟨H.size, H.slots, H.defers, hos.trans H.os, htape.trans H.tape, hout.trans H.output, by rw [hsz]; exact H.grow, fun k hk0 hM => ?_, H.le0, fun k o hk' => ?_, H.new, ?_, ?_, ?_, H.facts⟩
  · have : k ≠ b := by
      rintro rfl
      rcases hfr.2 with h' | h'
      · omega
      · exact hM h'
    exact (hk k this).trans (H.keep k hk0 hM)
  · have : k ≠ b := by rintro rfl; rw [hfr.1] at hk'; cases hk'
    exact (hk k this).trans (H.sub k o hk')
  · intro r hr'
    obtain ⟨j, hj⟩ := List.getElem?_of_mem hr'
    rw [List.getElem?_set] at hj
    split at hj
    · rename_i e; subst e
      simp only [hi, if_true, Option.some.injEq] at hj; subst hj; exact hb
    · rename_i e
      have hmj := List.mem_of_getElem? hj
      exact Res.holds_keep (H.res r hmj) ⟨hos, htape, hout, Nat.le_of_eq hsz.symm⟩ fun k hk' => hk k (fun e' => by subst e'; exact hap j r hj (Ne.symm e) hk')
  · intro r hr' k hk'
    obtain ⟨j, hj⟩ := List.getElem?_of_mem hr'
    rw [List.getElem?_set] at hj
    split at hj
    · rename_i e; subst e
      simp only [hi, if_true, Option.some.injEq] at hj; subst hj
      simp only [Res.has, Option.some.injEq] at hk'; subst hk'; exact hfr
    · exact H.fresh r (List.mem_of_getElem? hj) k hk'
  · have key : ∀ l : List Res, (l.Pairwise fun r r' => ∀ b, r.has b → ¬ r'.has b) ↔ ((l.map Res.has).Pairwise fun x y => ∀ b, x b → ¬ y b) := fun l => by rw [List.pairwise_map]
    show List.Pairwise _ (S.res.set i (.box b t cs'))
    rw [key, blk, ← key]
    exact H.apart

theorem run_store_op {t : TypeId} {x y : Operand} {ρ : Operand → Value} {ad : Addr} {v : Value} {w w' : World} (ho : o.op = .store t x y) (hx : ρ x = .pointer (some ad)) (hy : ρ y = v) (h : (storeVar t ad v).run P w = .ok () w') : (execOp ρ o).run P w = .ok .skip w' := by
  unfold execOp
  simp [ho, hx, hy, Instr.storeAt, Instr.sureAddr, h]

theorem run_storeVar_box {t tb : TypeId} {b off : Nat} {cs vs : List Value} {v : Value} {w : World} (hb : w.heap[b]? = some (.cells cs.toArray tb (0, 0))) (hv : v.cells = vs.toArray) (hi : (P.info? t).map (·.size) = some vs.length) (hfit : off + vs.length ≤ cs.length) (h1 : vs.all (·.oneCell') = true) :
    (storeVar t ⟨b, off, none⟩ v).run P w = .ok () (w.setRow b (cs.take off ++ vs ++ cs.drop (off + vs.length)).toArray) := by
  have hst := run_storeCells_at P b off tb vs 0 cs.toArray w hb (by simpa using hfit) (by simpa using h1)
  cases hq : P.info? t with
  | none => simp [hq] at hi
  | some i =>
    have hs : i.size = vs.length := by simpa [hq] using hi
    unfold storeVar
    simp only [Nat.add_zero, List.toList_toArray] at hst
    simp [Sem.run_bind, sizeOf, typeInfo, hq, hs, hv, hst]

theorem JL_store (hW : Wide F) (i : Nat) {t tb : TypeId} {x y : Operand} {b off : Nat} {cs vs : List Value} {v : Value} (ho : o.op = .store t x y) (hg : o.guard = none) (hdn : o.dst = none) (hkx : S.known x = true) (hky : S.known y = true) (hx : S.ev x = .pointer (some ⟨b, off, none⟩)) (hy : S.ev y = v)
    (hr : S.res[i]? = some (.box b tb cs)) (hv : v.cells = vs.toArray) (hi : (P.info? t).map (·.size) = some vs.length) (hfit : off + vs.length ≤ cs.length) (h1 : vs.all (·.oneCell') = true)
    (k : JL F P C ops { S with res := S.res.set i (.box b tb (cs.take off ++ vs ++ cs.drop (off + vs.length))) } l K) : JL F P C ops S (o :: l) K :=
  JL_skip_step (by simp [plainB, ho]) hg (by simp [ho, ol, hkx, hky]) hW fun h a w H => by
    have hb := H.res _ (List.mem_of_getElem? hr)
    refine ⟨_, h, _, run_store_op ho hx hy (run_storeVar_box hb hv hi hfit h1), ?_, k⟩
    rw [hdn]
    exact H.setbox i hr rfl rfl rfl (by simp [World.setRow]) (setRow_heap w b cs.toArray _ tb _ hb) (fun k hk => setRow_other w b k _ hk)

/-! ### Calls -/
structure ResOk (R : List Res) (h : Hp) (w : World) : Prop where
  holds : ∀ r ∈ R, r.holds w
  apart : R.Pairwise fun r r' => ∀ b, r.has b → ¬ r'.has b
  out : ∀ r ∈ R, ∀ b, r.has b → h b = none

/-- What a call leaves: v, memory of its own R', a greater part that stays; nothing else that lay is turned. -/
structure Left (R : List Res) (h : Hp) (w : World) (φ : Value → List Res → Hp → Prop) (v : Value) (R' : List Res) (h' : Hp) (w' : World) : Prop where
  os : w'.os = w.os
  tape : w'.tape = w.tape
  output : w'.output = w.output
  size : w.heap.size ≤ w'.heap.size
  keep : ∀ k, k < w.heap.size → (∀ r ∈ R, ¬ r.has k) → w'.heap[k]? = w.heap[k]?
  le : Hle h h'
  sub : Hsub h' w'
  new : ∀ b o, h' b = some o → h b = some o ∨ w.heap.size ≤ b ∨ ∃ r ∈ R, r.has b
  ok : ResOk R' h' w'
  fresh : ∀ r ∈ R', ∀ b, r.has b → w.heap.size ≤ b ∨ ∃ r ∈ R, r.has b
  post : φ v R' h'

/-- THE CONTRACT OF A CALL: of memory that stays (Fc), of memory that is handed over (R). -/
def Ct (P : Program) (f : FuncId) (args : Array Value) (R : List Res) (Fc : Hp → Prop) (φ : Value → List Res → Hp → Prop) : Prop :=
  ∀ h w, Hsub h w → Fc h → ResOk R h w → Calls P f args w fun e w' => ∃ v R' h', e = .returned v ∧ Left R h w φ v R' h' w'

theorem pair_perm {l l' : List Res} (h : l.Perm l') (hp : l.Pairwise fun r r' => ∀ b, r.has b → ¬ r'.has b) : l'.Pairwise fun r r' => ∀ b, r.has b → ¬ r'.has b :=
  hp.perm h (fun {x y} h b hb hb' => h b hb' hb)

theorem Sat.after {h : Hp} {a : Act} {w : World} (H : Sat C S h a w) {R rest : List Res} (hperm : S.res.Perm (R ++ rest)) {φ : Value → List Res → Hp → Prop} {v : Value} {R' : List Res} {h' : Hp} {w' : World} (L : Left R h w φ v R' h' w') (hm : Mono (φ v R')) :
    Sat C { S with res := R' ++ rest, facts := fun h => S.facts h ∧ φ v R' h, mono := by have := S.mono; infer_instance } h' a w' := by
  have hmem : ∀ r, r ∈ S.res ↔ r ∈ R ∨ r ∈ rest := fun r => by rw [hperm.mem_iff, List.mem_append]
  have hap := pair_perm hperm H.apart
  rw [List.pairwise_append] at hap
  obtain ⟨_, hrest, hcross⟩ := hap
  have hlt : ∀ r ∈ rest, ∀ b, r.has b → b < w.heap.size ∧ w'.heap[b]? = w.heap[b]? := fun r hr b hb => by
    have hl := Res.holds_lt (H.res r ((hmem r).2 (.inr hr))) hb
    exact ⟨hl, L.keep b hl (fun r' hr' hb' => hcross r' hr' r hr b hb' hb)⟩
  refine ⟨H.size, H.slots, H.defers, L.os.trans H.os, L.tape.trans H.tape, L.output.trans H.output, Nat.le_trans H.grow L.size, fun k hk hM => ?_, H.le0.trans L.le, L.sub, fun b o hb => ?_, ?_, ?_, ?_, ⟨S.mono.le L.le H.facts, L.post⟩⟩
  · refine (L.keep k (Nat.lt_of_lt_of_le hk H.grow) (fun r hr hb => ?_)).trans (H.keep k hk hM)
    rcases (H.fresh r ((hmem r).2 (.inl hr)) k hb).2 with h1 | h1
    · omega
    · exact hM h1
  · rcases L.new b o hb with h1 | h1 | ⟨r, hr, h1⟩
    · exact H.new b o h1
    · exact .inr (.inl (Nat.le_trans H.grow h1))
    · have hM := (H.fresh r ((hmem r).2 (.inl hr)) b h1).2
      exact .inr hM
  · intro r hr
    rcases List.mem_append.1 hr with hr | hr
    · exact L.ok.holds r hr
    · exact Res.holds_keep (H.res r ((hmem r).2 (.inr hr))) ⟨L.os, L.tape, L.output, L.size⟩ fun b hb => (hlt r hr b hb).2
  · intro r hr b hb
    rcases List.mem_append.1 hr with hr | hr
    · refine ⟨L.ok.out r hr b hb, ?_⟩
      rcases L.fresh r hr b hb with h1 | ⟨r', hr', h1⟩
      · exact .inl (Nat.le_trans H.grow h1)
      · exact (H.fresh r' ((hmem r').2 (.inl hr')) b h1).2
    · have hf := H.fresh r ((hmem r).2 (.inr hr)) b hb
      refine ⟨?_, hf.2⟩
      cases hh : h' b with
      | none => rfl
      | some o =>
        rcases L.new b o hh with h1 | h1 | ⟨r', hr', h1⟩
        · rw [hf.1] at h1; cases h1
        · have := (hlt r hr b hb).1; omega
        · exact absurd hb (hcross r' hr' r hr b h1)
  · rw [List.pairwise_append]
    refine ⟨L.ok.apart, hrest, fun r hr r' hr' b hb hb' => ?_⟩
    rcases L.fresh r hr b hb with h1 | ⟨r2, hr2, h1⟩
    · have := (hlt r' hr' b hb').1; omega
    · exact hcross r2 hr2 r' hr' b h1 hb'

theorem run_call_op {f : FuncId} {xs : Array Operand} {ts : Array TypeId} {ρ : Operand → Value} {w : World} (ho : o.op = .call { callee := .value (.func f), args := xs, argTypes := ts }) (hρ : ρ (.func f) = .func (.func f) #[] #[]) (hf : ∀ ys w, (callFunc f ys).run P w = .ok (.enter f ys) w) :
    (execOp ρ o).run P w = .ok (.enter f (xs.map ρ)) w := by
  unfold execOp
  rw [ho]
  simp [resolve, hρ, invoke, go_sem, hf]

/-- The program's function f is entered as a function with a body is. -/
def Enters (P : Program) (f : FuncId) : Prop := ∀ ys w, (callFunc f ys).run P w = .ok (.enter f ys) w

theorem JL_call (hW : Wide F) {f : FuncId} {xs : Array Operand} {ts : Array TypeId} {R rest : List Res} {Fc : Hp → Prop} {φ : Value → List Res → Hp → Prop} (hf : Enters P f)
    (ho : o.op = .call { callee := .value (.func f), args := xs, argTypes := ts }) (hg : o.guard = none) (hk : xs.toList.all S.known = true) (hd : dstOk C o.dst = true) (hc : Ct P f (xs.map S.ev) R Fc φ) (hperm : S.res.Perm (R ++ rest)) (hF : ∀ h, S.facts h → Fc h)
    (hm : ∀ v R', Mono (φ v R'))
    (k : ∀ v R', JL F P C ops (({ S with res := R' ++ rest, facts := fun h => S.facts h ∧ φ v R' h, mono := by have := S.mono; have := hm v R'; infer_instance } : St).put o.dst v) l K) : JL F P C ops S (o :: l) K := fun h a w H Q hQ => by
  have hkk : (ol o.op).all S.known = true := by
    rw [ho]
    simp only [ol, List.all_append, hk]
    simp [St.known]
  have hpl : plainB o = true := by simp [plainB, ho]
  refine wpListIn_plain hg fun K' hK' => ⟨fun f _ => hW.fn f, ?_⟩
  rw [Oper.semAt_eq _ _ _ (plain_defer hpl), H.exec o (plain_sel hpl) hkk, run_call_op ho rfl hf]
  refine ⟨fun e => (by rw [hW.depth] at e; cases e), hW.call P _ f _ w _ ?_⟩
  have hmem : ∀ r, r ∈ S.res ↔ r ∈ R ∨ r ∈ rest := fun r => by rw [hperm.mem_iff, List.mem_append]
  have hap := pair_perm hperm H.apart
  rw [List.pairwise_append] at hap
  refine (hc h w H.sub (hF h H.facts) ⟨fun r hr => H.res r ((hmem r).2 (.inl hr)), hap.1, fun r hr b hb => (H.fresh r ((hmem r).2 (.inl hr)) b hb).1⟩).mono ?_
  rintro e w' ⟨v, R', h', rfl, L⟩
  exact hK' _ _ (k v R' h' _ w' ((H.after hperm L (hm v R')).put o.dst v hd) Q hQ)

/-- A contract without memory handed over or back. -/
def FnC (P : Program) (f : FuncId) (args : Array Value) (Fc : Hp → Prop) (φ : Value → Hp → Prop) : Prop := Ct P f args [] Fc fun v R' h => R' = [] ∧ φ v h

theorem JL_fn (hW : Wide F) {f : FuncId} {xs : Array Operand} {ts : Array TypeId} {Fc : Hp → Prop} {φ : Value → Hp → Prop} (hf : Enters P f)
    (ho : o.op = .call { callee := .value (.func f), args := xs, argTypes := ts }) (hg : o.guard = none) (hk : xs.toList.all S.known = true) (hd : dstOk C o.dst = true) (hc : FnC P f (xs.map S.ev) Fc φ) (hF : ∀ h, S.facts h → Fc h)
    (hm : ∀ v, Mono (φ v))
    (k : ∀ v, JL F P C ops (({ S with facts := fun h => S.facts h ∧ φ v h, mono := by have := S.mono; have := hm v; infer_instance } : St).put o.dst v) l K) : JL F P C ops S (o :: l) K := by
  refine JL_call hW (rest := S.res) hf ho hg hk hd hc (List.Perm.refl _) hF (fun v R' => by have := hm v; infer_instance) fun v R' h a w H Q hQ => ?_
  have hf2 := H.facts
  have e1 : (({ S with res := R' ++ S.res, facts := fun h => S.facts h ∧ (R' = [] ∧ φ v h), mono := by have := S.mono; have := hm v; infer_instance } : St).put o.dst v).facts = fun h => S.facts h ∧ (R' = [] ∧ φ v h) := by cases o.dst <;> rfl
  rw [e1] at hf2
  obtain ⟨hf3, rfl, hf4⟩ := hf2
  refine k v h a w (H.weaken ?_ ?_ ?_ ?_) Q hQ
  · cases o.dst <;> exact fun _ _ x => x
  · cases o.dst <;> rfl
  · cases o.dst <;> rfl
  · intro _; cases o.dst <;> exact ⟨hf3, hf4⟩

/-- The facts weakened (or said otherwise). -/
theorem JL_facts (G : Hp → Prop) [hG : Mono G] (hf : ∀ h, S.facts h → G h) (k : JL F P C ops { S with facts := G, mono := hG } l K) : JL F P C ops S l K := fun h a w H Q hQ =>
  k h a w (H.weaken (fun _ _ x => x) rfl rfl (hf h)) Q hQ
theorem J_facts {c : Code} (G : Hp → Prop) [hG : Mono G] (hf : ∀ h, S.facts h → G h) (k : J F P C { S with facts := G, mono := hG } c Φ) : J F P C S c Φ := fun h a w H =>
  k h a w (H.weaken (fun _ _ x => x) rfl rfl (hf h))
/-- A fact of pure kind comes out of the facts. -/
theorem J_pure {c : Code} {p : Prop} (hf : ∀ h, S.facts h → p) (k : p → J F P C S c Φ) : J F P C S c Φ := fun h a w H => k (hf h H.facts) h a w H
theorem JL_fact {p : Prop} (hf : ∀ h, S.facts h → p) (k : p → JL F P C ops S l K) : JL F P C ops S l K := fun h a w H => k (hf h H.facts) h a w H
/-- What the facts say that there is. -/
theorem J_ex {c : Code} {α : Type} (G : α → Hp → Prop) (hG : ∀ x, Mono (G x)) (hf : ∀ h, S.facts h → ∃ x, G x h) (k : ∀ x, J F P C { S with facts := fun h => S.facts h ∧ G x h, mono := by have := S.mono; have := hG x; infer_instance } c Φ) : J F P C S c Φ := fun h a w H => by
  obtain ⟨x, hx⟩ := hf h H.facts
  exact k x h a w (H.weaken (fun _ _ x => x) rfl rfl (fun hS => ⟨hS, hx⟩))
theorem JL_ex {α : Type} (G : α → Hp → Prop) (hG : ∀ x, Mono (G x)) (hf : ∀ h, S.facts h → ∃ x, G x h) (k : ∀ x, JL F P C ops { S with facts := fun h => S.facts h ∧ G x h, mono := by have := S.mono; have := hG x; infer_instance } l K) : JL F P C ops S l K := fun h a w H Q hQ => by
  obtain ⟨x, hx⟩ := hf h H.facts
  exact k x h a w (H.weaken (fun _ _ x => x) rfl rfl (fun hS => ⟨hS, hx⟩)) Q hQ

/-! ### Memory of one's own becomes memory that stays -/
def upH (h : Hp) (b : Nat) (o : Obj) : Hp := fun k => if k = b then some o else h k
theorem Hle_up {h : Hp} {b : Nat} {o : Obj} (hb : h b = none) : Hle h (upH h b o) := fun k x hk => by
  unfold upH
  split
  · rename_i e; subst e; rw [hb] at hk; cases hk
  · exact hk

theorem pair_mid {l1 l2 : List Res} {r : Res} (h : (l1 ++ r :: l2).Pairwise fun r r' => ∀ b, r.has b → ¬ r'.has b) : ∀ r' ∈ l1 ++ l2, ∀ b, r.has b → ¬ r'.has b := by
  rw [List.pairwise_append, List.pairwise_cons] at h
  obtain ⟨_, ⟨h2, _⟩, h3⟩ := h
  intro r' hr' b hb hb'
  rcases List.mem_append.1 hr' with h' | h'
  · exact h3 r' h' r (List.mem_cons_self ..) b hb' hb
  · exact h2 r' h' b hb hb'

instance {b : Nat} {o : Obj} : Mono (fun h => h b = some o) := ⟨fun k x => k _ _ x⟩

/-- Of S's memory r is given away: its block stays from now on as it is. -/
theorem Sat.publish {h : Hp} {a : Act} {w : World} (H : Sat C S h a w) {l1 l2 : List Res} {r : Res} (hr : S.res = l1 ++ r :: l2) {b : Nat} {ob : Obj} (hb : r.has b) (hob : w.heap[b]? = some ob) (G : Hp → Prop) [hG : Mono G] (hGf : ∀ h', h' b = some ob → G h') :
    Sat C { S with res := l1 ++ l2, facts := fun h => S.facts h ∧ G h, mono := by have := S.mono; infer_instance } (upH h b ob) a w := by
  have hm : r ∈ S.res := by rw [hr]; simp
  have hsub : ∀ x ∈ l1 ++ l2, x ∈ S.res := fun x hx => by rw [hr]; simp at hx ⊢; rcases hx with h' | h'; exact .inl h'; exact .inr (.inr h')
  have hf := H.fresh r hm b hb
  have hle := Hle_up (o := ob) hf.1
  have hup : upH h b ob b = some ob := by simp [upH]
  have hap := H.apart
  rw [hr] at hap
  refine ⟨H.size, H.slots, H.defers, H.os, H.tape, H.output, H.grow, H.keep, H.le0.trans hle, fun k o hk => ?_, fun k o hk => ?_, fun x hx => H.res x (hsub x hx), fun x hx k hk => ?_, ?_, ⟨S.mono.le hle H.facts, hGf _ hup⟩⟩
  · unfold upH at hk
    split at hk
    · rename_i e; subst e; simp only [Option.some.injEq] at hk; subst hk; exact hob
    · exact H.sub k o hk
  · unfold upH at hk
    split at hk
    · rename_i e; subst e; exact .inr hf.2
    · exact H.new k o hk
  · have h1 := H.fresh x (hsub x hx) k hk
    refine ⟨?_, h1.2⟩
    unfold upH
    split
    · rename_i e; subst e; exact absurd hk (pair_mid hap x hx k hb)
    · exact h1.1
  · have := hap
    rw [List.pairwise_append, List.pairwise_cons] at this
    rw [List.pairwise_append]
    exact ⟨this.1, this.2.1.2, fun x hx y hy => this.2.2 x hx y (List.mem_cons_of_mem _ hy)⟩

theorem J_pubbox {c : Code} (l1 l2 : List Res) {b : Nat} {t : TypeId} {cs : List Value} (hr : S.res = l1 ++ .box b t cs :: l2)
    (k : J F P C { S with res := l1 ++ l2, facts := fun h => S.facts h ∧ h b = some (.cells cs.toArray t (0, 0)), mono := by have := S.mono; infer_instance } c Φ) : J F P C S c Φ := fun h a w H =>
  k _ a w (H.publish hr rfl (show Res.holds w (.box b t cs) from H.res _ (by rw [hr]; simp)) (fun h => h b = some (.cells cs.toArray t (0, 0))) fun _ x => x)
theorem JL_pubbox (l1 l2 : List Res) {b : Nat} {t : TypeId} {cs : List Value} (hr : S.res = l1 ++ .box b t cs :: l2)
    (k : JL F P C ops { S with res := l1 ++ l2, facts := fun h => S.facts h ∧ h b = some (.cells cs.toArray t (0, 0)), mono := by have := S.mono; infer_instance } l K) : JL F P C ops S l K := fun h a w H Q hQ =>
  k _ a w (H.publish hr rfl (show Res.holds w (.box b t cs) from H.res _ (by rw [hr]; simp)) (fun h => h b = some (.cells cs.toArray t (0, 0))) fun _ x => x) Q hQ

/-- A slice value v of n elements that reads as the cells xs, in memory that stays. -/
def Row (h : Hp) (v : Value) (n : Nat) (xs : List Value) : Prop :=
  (v = .slice none 0 0 ∧ n = 0 ∧ xs = []) ∨ ∃ b off cap, v = .slice (some ⟨b, off, none⟩) n cap ∧ n ≤ cap ∧ cap ≤ maxLen ∧ ∀ j u, xs[j]? = some u → cellH h ⟨b, off + j, none⟩ = some u
instance {v : Value} {n : Nat} {xs : List Value} : Mono (fun h => Row h v n xs) := ⟨fun k x => x.imp id fun ⟨b, off, cap, e, h1, h2, hc⟩ => ⟨b, off, cap, e, h1, h2, fun j u hj => cellH.le k (hc j u hj)⟩⟩

theorem J_pubown {c : Code} (l1 l2 : List Res) {v : Value} {e : TypeId} {size n : Nat} {xs : List Value} (hr : S.res = l1 ++ .own v e size n xs :: l2)
    (k : J F P C { S with res := l1 ++ l2, facts := fun h => S.facts h ∧ Row h v n xs, mono := by have := S.mono; infer_instance } c Φ) : J F P C S c Φ := fun h a w H => by
  have hm : Res.own v e size n xs ∈ S.res := by rw [hr]; simp
  obtain ⟨h1, h2⟩ := H.res _ hm
  rcases h2 with ⟨rfl, rfl⟩ | ⟨g, cap, cur, rfl, _, hg, hn, hc, _, htake⟩
  · have hx : xs = [] := List.eq_nil_of_length_eq_zero (by simpa using h1)
    subst hx
    have hap := H.apart
    rw [hr, List.pairwise_append, List.pairwise_cons] at hap
    have hsub : ∀ x ∈ l1 ++ l2, x ∈ S.res := fun x hx => by rw [hr]; simp at hx ⊢; rcases hx with h' | h'; exact .inl h'; exact .inr (.inr h')
    exact k h a w ⟨H.size, H.slots, H.defers, H.os, H.tape, H.output, H.grow, H.keep, H.le0, H.sub, H.new, fun x hx => H.res x (hsub x hx), fun x hx => H.fresh x (hsub x hx), by rw [List.pairwise_append]; exact ⟨hap.1, hap.2.1.2, fun x hx y hy => hap.2.2 x hx y (List.mem_cons_of_mem _ hy)⟩, ⟨H.facts, .inl ⟨rfl, rfl, rfl⟩⟩⟩
  · exact k _ a w (H.publish hr rfl hg (fun h => Row h _ n xs) fun h' hb => .inr ⟨g, 0, cap, rfl, hn, hc, fun j u hj => by
      rw [← htake, List.getElem?_take] at hj
      split at hj
      · simpa [cellH, hb] using hj
      · cases hj⟩)

/-! ### A function's end -/
def rvSem (tmps : Array Value) (r : ResultVar) : Sem Value := match r with
  | .tmp t => pure (tmps.getD t undef)
  | .cell p t => do loadVar t (← asAddr (tmps.getD p undef))
/-- What one result variable reads as. -/
def RV (P : Program) (S : St) (r : ResultVar) (v : Value) : Prop := ∀ C h a w, Sat C S h a w → (rvSem a.tmps r).run P w = .ok v w
theorem RV.tmp {t : Tmp} {v : Value} (h : lk S.slots t = some v) : RV P S (.tmp t) v := fun C hp a w H => by
  simp [rvSem, H.slots t v h]
theorem RV.cell (i : Nat) {p : Tmp} {t tb : TypeId} {b : Nat} {cs : List Value} (d : TypeDesc) (h : lk S.slots p = some (.pointer (some ⟨b, 0, none⟩))) (hr : S.res[i]? = some (.box b tb cs)) (hu : P.underlying t = some d) (hd : aggB d = true) {ti : TypeInfo} (hti : P.info? t = some ti) (hi : ti.size = cs.length) : RV P S (.cell p t) (.agg cs.toArray) := fun C hp a w H => by
  have hl := run_loadVar_agg (P := P) (ad := ⟨b, 0, none⟩) (w := w) (cs := cs) hu hd (by simp [hti, hi]) fun j u hj => by
    have e : (⟨b, 0, none⟩ : Addr).add j = ⟨b, j, none⟩ := by unfold Addr.add; split <;> simp_all
    rw [e, box_cell (show Res.holds w (.box b tb cs) from H.res _ (List.mem_of_getElem? hr))]; exact hj
  simp [rvSem, H.slots p _ h, asAddr, hl]
theorem RV.cell1 (i : Nat) {p : Tmp} {t tb : TypeId} {b : Nat} {v : Value} (d : TypeDesc) (h : lk S.slots p = some (.pointer (some ⟨b, 0, none⟩))) (hr : S.res[i]? = some (.box b tb [v])) (hu : P.underlying t = some d) (hd : aggB d = false) : RV P S (.cell p t) v := fun C hp a w H => by
  have hl := run_loadVar_one (P := P) (ad := ⟨b, 0, none⟩) (w := w) (v := v) hu hd (by
    rw [box_cell (show Res.holds w (.box b tb [v]) from H.res _ (List.mem_of_getElem? hr))]; rfl)
  simp [rvSem, H.slots p _ h, asAddr, hl]

theorem results_rv (fn : Func) (tmps : Array Value) : results fn tmps = (do let vs ← fn.results.mapM (rvSem tmps); pure (if h : vs.size = 1 then vs[0] else .tuple vs)) := by
  unfold results
  have : (fun (x : ResultVar) => match x with
    | .tmp t => (pure (tmps.getD t undef) : Sem Value)
    | .cell a t => do loadVar t (← asAddr (tmps.getD a undef))) = rvSem tmps := by funext r; cases r <;> rfl
  rw [← this]
  rfl

/-- The results of a function read as v. -/
def Reads (P : Program) (S : St) (fn : Func) (v : Value) : Prop := ∀ C h a w, Sat C S h a w → (results fn a.tmps).run P w = .ok v w
theorem Reads.none {fn : Func} (h : fn.results = #[]) : Reads P S fn (.tuple #[]) := fun C hp a w H => by simp [results, h]
theorem Reads.one {fn : Func} {r : ResultVar} {v : Value} (h : fn.results = #[r]) (h0 : RV P S r v) : Reads P S fn v := fun C hp a w H => by
  have e0 := h0 C hp a w H
  rw [results_rv, h]
  generalize rvSem a.tmps = g at *
  simp [e0]
theorem Reads.two {fn : Func} {r0 r1 : ResultVar} {v0 v1 : Value} (h : fn.results = #[r0, r1]) (h0 : RV P S r0 v0) (h1 : RV P S r1 v1) : Reads P S fn (.tuple #[v0, v1]) := fun C hp a w H => by
  have e0 := h0 C hp a w H
  have e1 := h1 C hp a w H
  rw [results_rv, h]
  generalize rvSem a.tmps = g at *
  simp [e0, e1]
theorem Reads.three {fn : Func} {r0 r1 r2 : ResultVar} {v0 v1 v2 : Value} (h : fn.results = #[r0, r1, r2]) (h0 : RV P S r0 v0) (h1 : RV P S r1 v1) (h2 : RV P S r2 v2) : Reads P S fn (.tuple #[v0, v1, v2]) := fun C hp a w H => by
  have e0 := h0 C hp a w H
  have e1 := h1 C hp a w H
  have e2 := h2 C hp a w H
  rw [results_rv, h]
  generalize rvSem a.tmps = g at *
  simp [e0, e1, e2]
theorem Reads.four {fn : Func} {r0 r1 r2 r3 : ResultVar} {v0 v1 v2 v3 : Value} (h : fn.results = #[r0, r1, r2, r3]) (h0 : RV P S r0 v0) (h1 : RV P S r1 v1) (h2 : RV P S r2 v2) (h3 : RV P S r3 v3) : Reads P S fn (.tuple #[v0, v1, v2, v3]) := fun C hp a w H => by
  have e0 := h0 C hp a w H
  have e1 := h1 C hp a w H
  have e2 := h2 C hp a w H
  have e3 := h3 C hp a w H
  rw [results_rv, h]
  generalize rvSem a.tmps = g at *
  simp [e0, e1, e2, e3]

/-- How a function may end. -/
def Fin (P : Program) (fn : Func) (φ : Value → List Res → Hp → Prop) : Outs := fun e S => (e = .ret ∨ e = .normal) ∧ S.defers = [] ∧ ∃ v R' drop, S.res.Perm (R' ++ drop) ∧ Reads P S fn v ∧ ∀ h, S.facts h → φ v R' h

def argSlots : Nat → List Value → List (Nat × Value)
  | _, [] => []
  | k, v :: l => (k, v) :: argSlots (k + 1) l
theorem lk_args : ∀ (l : List Value) (k t : Nat) (v : Value), lk (argSlots k l) t = some v → k ≤ t ∧ l[t - k]? = some v
  | [], _, _, _, h => by simp [argSlots, lk] at h
  | u :: l, k, t, v, h => by
    simp only [argSlots, lk] at h
    split at h
    · rename_i e; subst e; simp_all
    · rename_i e
      obtain ⟨h1, h2⟩ := lk_args l (k + 1) t v h
      refine ⟨by omega, ?_⟩
      rw [show t - k = (t - (k + 1)) + 1 by omega]
      simpa using h2

/-- **A CONTRACT OUT OF ITS BODY's WALK.** -/
theorem ct_of_J {f : FuncId} {fn : Func} {c : Code} {args : List Value} {R : List Res} {Fc : Hp → Prop} {φ : Value → List Res → Hp → Prop} (hf : P.funcs[f]? = some fn) (hb : fn.body = some c) (hm : Mono Fc) (N : Nat) (hN : fn.ntmps = N) (hn : args.length ≤ N)
    (h : ∀ W0 h0, J Fence.wide P ⟨W0, h0, fun k => ∃ r ∈ R, r.has k, N⟩ ⟨argSlots 0 args, R, Fc, hm, []⟩ c (Fin P fn φ)) : Ct P f args.toArray R Fc φ := fun h0 w hsub hF hR => by
  refine (callsIn_wide (n := 0)).1 (callsIn_of_wp hf hb trivial (wpIn_mono (h w h0 h0 _ w ?_) ?_))
  · refine ⟨by simp [hN]; omega, fun t v hv => ?_, rfl, rfl, rfl, rfl, Nat.le_refl _, fun _ _ _ => rfl, Hle.refl _, hsub, fun b o hb => .inl hb, hR.holds, fun r hr b hb => ⟨hR.out r hr b hb, .inr ⟨r, hr, hb⟩⟩, hR.apart, hF⟩
    obtain ⟨_, h2⟩ := lk_args args 0 t v hv
    simp only [Nat.sub_zero] at h2
    have : t < args.length := (List.getElem?_eq_some_iff.1 h2).1
    rw [List.getElem?_eq_getElem this] at h2
    simp [Array.getElem?_append, this, Option.some.inj h2]
  · rintro e a' w' ⟨S', h', ⟨he, hdf, v, R', drop, hperm, hrd, hpost⟩, H⟩
    have hres := hrd _ h' a' w' H
    have hmem : ∀ r, r ∈ S'.res ↔ r ∈ R' ∨ r ∈ drop := fun r => by rw [hperm.mem_iff, List.mem_append]
    have hap := pair_perm hperm H.apart
    rw [List.pairwise_append] at hap
    have L : Left R h0 w φ v R' h' w' := ⟨H.os, H.tape, H.output, H.grow, fun k hk hno => H.keep k hk (fun ⟨r, hr, hb⟩ => hno r hr hb), H.le0, H.sub, H.new,
      ⟨fun r hr => H.res r ((hmem r).2 (.inl hr)), hap.1, fun r hr b hb => (H.fresh r ((hmem r).2 (.inl hr)) b hb).1⟩, fun r hr b hb => (H.fresh r ((hmem r).2 (.inl hr)) b hb).2, hpost h' H.facts⟩
    have hd : a'.defers = [] := H.defers.trans hdf
    rcases he with rfl | rfl <;> exact ⟨hd, v, hres, v, R', h', rfl, L⟩

/-- .. without memory handed over or back. -/
theorem fn_of_J {f : FuncId} {fn : Func} {c : Code} {args : List Value} {Fc : Hp → Prop} {φ : Value → Hp → Prop} (hf : P.funcs[f]? = some fn) (hb : fn.body = some c) (hm : Mono Fc) (N : Nat) (hN : fn.ntmps = N) (hn : args.length ≤ N)
    (h : ∀ W0 h0, J Fence.wide P ⟨W0, h0, fun k => ∃ r ∈ ([] : List Res), r.has k, N⟩ ⟨argSlots 0 args, [], Fc, hm, []⟩ c (Fin P fn (fun v R' h => R' = [] ∧ φ v h))) : FnC P f args.toArray Fc φ := ct_of_J hf hb hm N hN hn h

theorem Fin.ret {fn : Func} {φ : Value → Hp → Prop} {v : Value} (e : Exit) (he : e = .ret ∨ e = .normal) (hd : S.defers = []) (hr : Reads P S fn v) (h : ∀ h, S.facts h → φ v h) : Fin P fn (fun v R' h => R' = [] ∧ φ v h) e S :=
  ⟨he, hd, v, [], S.res, List.Perm.refl _, hr, fun hp x => ⟨rfl, h hp x⟩⟩

end
end Go.Hl
