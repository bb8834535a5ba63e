/- Trees: as they lie in memory, and as plain things. -/
import Derived.Test.YtgheodbcgddjlaaW5
set_option linter.unusedVariables false
set_option linter.unusedSimpArgs false
namespace Go.Ix
open Go.Hl

inductive S where
  | nil
  | node (key : List UInt8) (l r : S) (dp mn : Int)
def S.dp : S → Int
  | .nil => 0
  | .node _ _ _ d _ => d
def S.mn : S → Int
  | .nil => 0
  | .node _ _ _ _ m => m
def S.left : S → S
  | .nil => .nil
  | .node _ l _ _ _ => l
def S.right : S → S
  | .nil => .nil
  | .node _ _ r _ _ => r
def S.key : S → List UInt8
  | .nil => []
  | .node k _ _ _ _ => k
def S.cnt : S → Nat
  | .nil => 0
  | .node _ l r _ _ => 1 + l.cnt + r.cnt
def S.Wf : S → Prop
  | .nil => True
  | .node _ l r d m => 0 ≤ d ∧ d ≤ 1 + l.cnt + r.cnt ∧ m = 1 + l.cnt + r.cnt ∧ l.Wf ∧ r.Wf
theorem S.Wf.dp {s : S} (h : s.Wf) : 0 ≤ s.dp ∧ s.dp ≤ s.cnt := by
  cases s with
  | nil => exact ⟨Int.le_refl _, Int.le_refl _⟩
  | node k l r d m => obtain ⟨h1, h2, h3, _⟩ := h; simp only [S.dp, S.cnt]; omega
theorem S.Wf.mn {s : S} (h : s.Wf) : s.mn = s.cnt := by
  cases s with
  | nil => rfl
  | node k l r d m => obtain ⟨h1, h2, h3, _⟩ := h; simp only [S.mn, S.cnt]; omega
def joinS (key : List UInt8) (l r : S) : S := .node key l r (1 + max l.dp r.dp) (1 + l.mn + r.mn)
theorem joinS_wf {key : List UInt8} {l r : S} (hl : l.Wf) (hr : r.Wf) : (joinS key l r).Wf := by
  have := hl.dp; have := hr.dp; have := hl.mn; have := hr.mn
  refine ⟨by omega, by omega, by omega, hl, hr⟩
theorem joinS_cnt {key : List UInt8} {l r : S} : (joinS key l r).cnt = 1 + l.cnt + r.cnt := rfl
def levelS (key : List UInt8) (l r : S) : S :=
  if r.dp + 1 < l.dp then
    if l.right.dp ≤ l.left.dp then joinS l.key l.left (joinS key l.right r)
    else joinS l.right.key (joinS l.key l.left l.right.left) (joinS key l.right.right r)
  else if l.dp + 1 < r.dp then
    if r.left.dp ≤ r.right.dp then joinS r.key (joinS key l r.left) r.right
    else joinS r.left.key (joinS key l r.left.left) (joinS r.key r.left.right r.right)
  else joinS key l r
theorem S.node_of {s : S} (h : 0 < s.dp) : ∃ k l r d m, s = .node k l r d m := by
  cases s with
  | nil => exact absurd h (by simp [S.dp])
  | node k l r d m => exact ⟨k, l, r, d, m, rfl⟩
theorem levelS_wf {key : List UInt8} {l r : S} (hl : l.Wf) (hr : r.Wf) : (levelS key l r).Wf ∧ (levelS key l r).cnt = 1 + l.cnt + r.cnt := by
  have dl := hl.dp; have dr := hr.dp
  unfold levelS
  split
  · rename_i h1
    obtain ⟨k, ll, lr, d, m, rfl⟩ := S.node_of (s := l) (by omega)
    obtain ⟨_, _, _, wl, wr⟩ := hl
    by_cases h2 : lr.dp ≤ ll.dp
    · rw [if_pos (show (S.node k ll lr d m).right.dp ≤ (S.node k ll lr d m).left.dp from h2)]
      exact ⟨joinS_wf wl (joinS_wf wr hr), by simp only [joinS_cnt, S.cnt, S.left, S.right]; omega⟩
    · rw [if_neg (show ¬ (S.node k ll lr d m).right.dp ≤ (S.node k ll lr d m).left.dp from h2)]
      have := wl.dp
      obtain ⟨k2, l2, r2, d2, m2, rfl⟩ := S.node_of (s := lr) (by omega)
      obtain ⟨_, _, _, w2, w3⟩ := wr
      exact ⟨joinS_wf (joinS_wf wl w2) (joinS_wf w3 hr), by simp only [joinS_cnt, S.cnt, S.left, S.right]; omega⟩
  · split
    · rename_i h1 h3
      obtain ⟨k, rl, rr, d, m, rfl⟩ := S.node_of (s := r) (by omega)
      obtain ⟨_, _, _, wl, wr⟩ := hr
      by_cases h2 : rl.dp ≤ rr.dp
      · rw [if_pos (show (S.node k rl rr d m).left.dp ≤ (S.node k rl rr d m).right.dp from h2)]
        exact ⟨joinS_wf (joinS_wf hl wl) wr, by simp only [joinS_cnt, S.cnt, S.left, S.right]; omega⟩
      · rw [if_neg (show ¬ (S.node k rl rr d m).left.dp ≤ (S.node k rl rr d m).right.dp from h2)]
        have := wr.dp
        obtain ⟨k2, l2, r2, d2, m2, rfl⟩ := S.node_of (s := rl) (by omega)
        obtain ⟨_, _, _, w2, w3⟩ := wl
        exact ⟨joinS_wf (joinS_wf hl w2) (joinS_wf w3 wr), by simp only [joinS_cnt, S.cnt, S.left, S.right]; omega⟩
    · exact ⟨joinS_wf hl hr, joinS_cnt⟩
def putS (key : List UInt8) : S → S
  | .nil => .node key .nil .nil 1 1
  | .node k l r _ _ => if cmpB key k < 0 then levelS k (putS key l) r else if 0 < cmpB key k then levelS k l (putS key r) else joinS key l r
theorem putS_wf (key : List UInt8) : ∀ {s : S}, s.Wf → (putS key s).Wf ∧ (putS key s).cnt ≤ s.cnt + 1
  | .nil, _ => by simp [putS, S.Wf, S.cnt]
  | .node k l r d m, h => by
    obtain ⟨_, _, _, wl, wr⟩ := h
    have il := putS_wf key wl
    have ir := putS_wf key wr
    unfold putS
    split
    · have := levelS_wf (key := k) il.1 wr; exact ⟨this.1, by simp only [S.cnt]; omega⟩
    · split
      · have := levelS_wf (key := k) wl ir.1; exact ⟨this.1, by simp only [S.cnt]; omega⟩
      · exact ⟨joinS_wf wl wr, by simp only [joinS_cnt, S.cnt]; omega⟩

/-- A tree as it lies in memory. -/
inductive T where
  | nil
  | node (a : Nat) (kv : Value) (key : List UInt8) (l r : T) (dp mn : Int)
def T.ptr : T → Value
  | .nil => .pointer none
  | .node a _ _ _ _ _ _ => .pointer (some ⟨a, 0, none⟩)
def T.sh : T → S
  | .nil => .nil
  | .node _ _ k l r d m => .node k l.sh r.sh d m
def ncells (kv : Value) (l r : T) (d m : Int) : List Value := [kv, .slice none 0 0, l.ptr, r.ptr, .int .i64 d, .int .i64 m]
def IsT (h : Hp) : T → Prop
  | .nil => True
  | .node a kv key l r d m => h a = some (.cells (ncells kv l r d m).toArray 88 (0, 0)) ∧ Bs h kv key ∧ IsT h l ∧ IsT h r
theorem IsT.le {h h' : Hp} (k : Hle h h') : ∀ {t : T}, IsT h t → IsT h' t
  | .nil, _ => trivial
  | .node .., ⟨h1, h2, h3, h4⟩ => ⟨k _ _ h1, Mono.le (F := fun h => Bs h _ _) k h2, IsT.le k h3, IsT.le k h4⟩
instance {t : T} : Mono (fun h => IsT h t) := ⟨fun k x => IsT.le k x⟩
theorem ptr_clist (t : T) : clist t.ptr = [t.ptr] := by cases t <;> rfl
theorem Bs.clist {h : Hp} {v : Value} {l : List UInt8} (H : Bs h v l) : clist v = [v] := by
  rcases H with ⟨rfl, _⟩ | ⟨b, off, cap, rfl, _⟩ <;> rfl
theorem T.node_of {t : T} (h : 0 < t.sh.dp) : ∃ a kv k l r d m, t = .node a kv k l r d m := by
  cases t with
  | nil => exact absurd h (by simp [T.sh, S.dp])
  | node a kv k l r d m => exact ⟨a, kv, k, l, r, d, m, rfl⟩
/-- u points to a tree of this shape. -/
def Tr (s : S) (u : Value) (h : Hp) : Prop := ∃ t : T, u = t.ptr ∧ IsT h t ∧ t.sh = s
instance {s : S} {u : Value} : Mono (fun h => Tr s u h) := inferInstanceAs (Mono (fun h => ∃ t : T, u = t.ptr ∧ IsT h t ∧ t.sh = s))
instance {s : S} {u : Value} : Mono (Tr s u) := inferInstanceAs (Mono (fun h => ∃ t : T, u = t.ptr ∧ IsT h t ∧ t.sh = s))
/-- The nodes from a key on, in order. -/
def fromT (lo : List UInt8) : T → List T
  | .nil => []
  | .node a kv k l r d m => (if 0 ≤ cmpB k lo then fromT lo l ++ [.node a kv k l r d m] else []) ++ fromT lo r
/-- What an iterator over a tree's nodes has caught. -/
def Cp (lv : Value) (lo : List UInt8) (t : T) (b2 b3 : Nat) (h : Hp) : Prop := h b2 = some (.cells #[t.ptr] 64 (0, 0)) ∧ h b3 = some (.cells #[lv] 49 (0, 0)) ∧ IsT h t ∧ Bs h lv lo
instance {lv : Value} {lo : List UInt8} {t : T} {b2 b3 : Nat} : Mono (fun h => Cp lv lo t b2 b3 h) := inferInstanceAs (Mono (fun h => h b2 = some (.cells #[t.ptr] 64 (0, 0)) ∧ h b3 = some (.cells #[lv] 49 (0, 0)) ∧ IsT h t ∧ Bs h lv lo))
instance {lv : Value} {lo : List UInt8} {t : T} {b2 b3 : Nat} : Mono (Cp lv lo t b2 b3) := inferInstanceAs (Mono (fun h => Cp lv lo t b2 b3 h))
/-- v is a *Tree of the tree t. -/
def Rt (h : Hp) (v : Value) (t : T) : Prop := (v = .pointer none ∧ t = .nil) ∨ ∃ a, v = .pointer (some ⟨a, 0, none⟩) ∧ h a = some (.cells #[t.ptr] 71 (0, 0)) ∧ IsT h t
instance {v : Value} {t : T} : Mono (fun h => Rt h v t) := inferInstanceAs (Mono (fun h => (v = .pointer none ∧ t = .nil) ∨ ∃ a, v = .pointer (some ⟨a, 0, none⟩) ∧ h a = some (.cells #[t.ptr] 71 (0, 0)) ∧ IsT h t))
theorem Rt.isT {h : Hp} {v : Value} {t : T} (H : Rt h v t) : IsT h t := by
  rcases H with ⟨_, rfl⟩ | ⟨a, _, _, h3⟩
  · trivial
  · exact h3
end Go.Ix
namespace Go.Hl
open Go.RowKit Go.Grow Go.Ix
section
variable {F : Fence} {P : Program} {C : Ctx} {Φ : Outs} {ops : Array Oper} {S0 : St} {Φs : Fcts} {tail l : List Oper} {K : St → Prop} {k k1 : Nat} {sl : List (Nat × Value)} {gl : List GF}
/-- What the youngest fact of a region that draws says that there is. -/
theorem G_ex {α : Type} {G : α → Hp → Prop} {m : Mono (fun h => ∃ x, G x h)} (mG : ∀ x, Mono (G x)) (h : ∀ x, JG F P C ops S0 Φs tail K k l sl (⟨k1, G x, mG x⟩ :: gl)) : JG F P C ops S0 Φs tail K k l sl (⟨k1, fun h => ∃ x, G x h, m⟩ :: gl) := fun hp a0 w0 H a gs hz hd hs hg Q hQ => by
  cases gs with
  | nil => exact hg.elim
  | cons p gs =>
    obtain ⟨⟨e, h', l', s', n', x, hx⟩, hg'⟩ := hg
    exact h x hp a0 w0 H a (p :: gs) hz hd hs ⟨⟨e, h', l', s', n', hx⟩, hg'⟩ Q hQ
theorem G_pure {G : Hp → Prop} {m : Mono G} {p : Prop} (hp : ∀ h, G h → p) (h : p → JG F P C ops S0 Φs tail K k l sl (⟨k1, G, m⟩ :: gl)) : JG F P C ops S0 Φs tail K k l sl (⟨k1, G, m⟩ :: gl) := fun hp' a0 w0 H a gs hz hd hs hg Q hQ => by
  cases gs with
  | nil => exact hg.elim
  | cons q gs =>
    have hg2 := hg
    obtain ⟨⟨e, h', l', s', n', hx⟩, hg'⟩ := hg
    exact h (hp h' hx) hp' a0 w0 H a (q :: gs) hz hd hs hg2 Q hQ
/-- A tree among the facts: by its name. -/
theorem G_tr {s : S} {u : Value} {m : Mono (Tr s u)} (h : ∀ t : T, u = t.ptr → t.sh = s → JG F P C ops S0 Φs tail K k l sl (⟨k1, fun h => IsT h t, inferInstance⟩ :: gl)) : JG F P C ops S0 Φs tail K k l sl (⟨k1, Tr s u, m⟩ :: gl) := fun hp' a0 w0 H a gs hz hd hs hg Q hQ => by
  cases gs with
  | nil => exact hg.elim
  | cons q gs =>
    obtain ⟨⟨e, h', l', s', n', t, h1, h2, h3⟩, hg'⟩ := hg
    exact h t h1 h3 hp' a0 w0 H a (q :: gs) hz hd hs ⟨⟨e, h', l', s', n', h2⟩, hg'⟩ Q hQ

variable {res : List Res} {fc : Hp → Prop} {mn : Mono fc} {df : List Deferred}
theorem J_or {c : Code} {G1 G2 : Hp → Prop} (m1 : Mono G1) (m2 : Mono G2) (hf : ∀ h, fc h → G1 h ∨ G2 h) (h1 : J F P C ⟨sl, res, fun h => fc h ∧ G1 h, (by infer_instance), df⟩ c Φ) (h2 : J F P C ⟨sl, res, fun h => fc h ∧ G2 h, (by infer_instance), df⟩ c Φ) : J F P C ⟨sl, res, fc, mn, df⟩ c Φ := fun h a w H => by
  rcases hf h H.facts with hx | hx
  · exact h1 h a w (H.weaken (fun _ _ x => x) rfl rfl fun y => ⟨y, hx⟩)
  · exact h2 h a w (H.weaken (fun _ _ x => x) rfl rfl fun y => ⟨y, hx⟩)
theorem JL_or {G1 G2 : Hp → Prop} (m1 : Mono G1) (m2 : Mono G2) (hf : ∀ h, fc h → G1 h ∨ G2 h) (h1 : JL F P C ops ⟨sl, res, fun h => fc h ∧ G1 h, (by infer_instance), df⟩ l K) (h2 : JL F P C ops ⟨sl, res, fun h => fc h ∧ G2 h, (by infer_instance), df⟩ l K) : JL F P C ops ⟨sl, res, fc, mn, df⟩ l K := fun h a w H Q hQ => by
  rcases hf h H.facts with hx | hx
  · exact h1 h a w (H.weaken (fun _ _ x => x) rfl rfl fun y => ⟨y, hx⟩) Q hQ
  · exact h2 h a w (H.weaken (fun _ _ x => x) rfl rfl fun y => ⟨y, hx⟩) Q hQ
/-- A tree among the facts: by its name. -/
theorem JL_tr {s : S} {u : Value} {t : Tmp} (hf : ∀ h, fc h → Tr s u h) (h : ∀ t : T, u = t.ptr → t.sh = s → JL F P C ops ⟨sl, res, fun h => fc h ∧ IsT h t, (by infer_instance), df⟩ l K) : JL F P C ops ⟨sl, res, fc, mn, df⟩ l K := fun hp a w H Q hQ => by
  obtain ⟨t, h1, h2, h3⟩ := hf hp H.facts
  exact h t h1 h3 hp a w (H.weaken (fun _ _ x => x) rfl rfl fun y => ⟨y, h2⟩) Q hQ
theorem Sat.perm {S : St} {h : Hp} {a : Act} {w : World} (H : Sat C S h a w) {res' : List Res} (hp : S.res.Perm res') : Sat C { S with res := res' } h a w :=
  ⟨H.size, H.slots, H.defers, H.os, H.tape, H.output, H.grow, H.keep, H.le0, H.sub, H.new, fun r hr => H.res r (hp.mem_iff.2 hr), fun r hr => H.fresh r (hp.mem_iff.2 hr), pair_perm hp H.apart, H.facts⟩
theorem Le.perm {S U : St} (res' : List Res) (hp : S.res.Perm res') (h : Le C { S with res := res' } U) : Le C S U := fun hp' a w H => h hp' a w (H.perm hp)
theorem J_perm {c : Code} (res' : List Res) (hp : res.Perm res') (h : J F P C ⟨sl, res', fc, mn, df⟩ c Φ) : J F P C ⟨sl, res, fc, mn, df⟩ c Φ := fun hp' a w H => h hp' a w (H.perm hp)
theorem JL_perm (res' : List Res) (hp : res.Perm res') (h : JL F P C ops ⟨sl, res', fc, mn, df⟩ l K) : JL F P C ops ⟨sl, res, fc, mn, df⟩ l K := fun hp' a w H => h hp' a w (H.perm hp)
theorem P_eqsl {x y : Operand} {d : Option Tmp} {ty : TypeId} {ps : String} {af : Array Edge} {gd : Option (Nat × Bool)} {p : Option Addr} {n c : Nat} {t t' e : TypeId} (h : evl sl x = some (.slice p n c)) (h2 : evl sl y = some (.slice none 0 0)) (hu : P.underlying t = some (.slice e)) : Pure P sl ⟨d, .binOp .eql t x y t', ty, ps, af, gd⟩ (.bool p.isNone) := fun ρ hρ w => by
  have hq : ∀ d, (Op.equalIn (d + 1) t (.slice p n c) (.slice none 0 0)).run P w = .ok p.isNone w := fun d => by
    cases p <;> simp [Op.equalIn, run_underlying hu]
  have hq' : (Op.equal t (.slice p n c) (.slice none 0 0)).run P w = .ok p.isNone w := hq 9999
  unfold execOp
  simp only [hρ _ _ h, hρ _ _ h2, Sem.run_bind]
  have hg : (eqGuard .eql t x y (.slice p n c) (.slice none 0 0)).run P w = .ok () w := by simp [go_sem]
  rw [hg]
  simp only [Result.andThen_ok, binOp]
  simp [hq']
/-- A slice literal of no elements: a row of one's own. -/
theorem R_bslice0 (hW : Wide F) {ts e : TypeId} {te : TypeInfo} {t : Tmp} {ty : TypeId} {ps : String} {af : Array Edge} (hu : P.underlying ts = some (.slice e)) (he : P.info? e = some te) (ht : decide (t < C.n) = true)
    (k : ∀ b, JL F P C ops ⟨(t, .slice (some ⟨b, 0, none⟩) 0 0) :: sl, .own (.slice (some ⟨b, 0, none⟩) 0 0) e te.size 0 [] :: res, fc, mn, df⟩ l K) : JL F P C ops ⟨sl, res, fc, mn, df⟩ (⟨some t, .buildSlice ts 0 #[], ty, ps, af, none⟩ :: l) K := fun h a w H Q hQ => by
  have hs : (sizeOf e).run P w = .ok te.size w := by simp [sizeOf, typeInfo, he]
  have hex : (execOp a.eval ⟨some t, .buildSlice ts 0 #[], ty, ps, af, none⟩).run P w = .ok (.value (.slice (some ⟨w.heap.size, 0, none⟩) 0 0)) (w.alloc (.cells #[] e)) := by
    unfold execOp
    simp only [Instr.buildSlice, Sem.run_bind, run_underlying hu, Result.andThen_ok, hs, Nat.zero_mul]
    simp [Instr.fill, newRow, go_sem]
  refine wpListIn_plain rfl fun K' hK' => ⟨fun f _ => hW.fn f, ?_⟩
  rw [Oper.semAt_eq _ _ _ (fun c e => by cases e), hex]
  have H1 := H.newbox e []
  have H2 : Sat C ⟨sl, .own (.slice (some ⟨w.heap.size, 0, none⟩) 0 0) e te.size 0 [] :: res, fc, mn, df⟩ h a (w.alloc (.cells #[] e)) := by
    refine ⟨H1.size, H1.slots, H1.defers, H1.os, H1.tape, H1.output, H1.grow, H1.keep, H1.le0, H1.sub, H1.new, fun r hr => ?_, fun r hr b hb => ?_, ?_, H1.facts⟩
    · rcases List.mem_cons.1 hr with rfl | hr
      · exact ⟨by simp, .inr ⟨w.heap.size, 0, #[], rfl, Nat.zero_le _, World.alloc_heap_new w _, Nat.le_refl _, Nat.zero_le _, by simp, by simp⟩⟩
      · exact H1.res r (List.mem_cons_of_mem _ hr)
    · rcases List.mem_cons.1 hr with rfl | hr
      · exact H1.fresh (.box w.heap.size e []) (List.mem_cons_self ..) b (by simpa [Res.has, Value.ownBlock] using hb)
      · exact H1.fresh r (List.mem_cons_of_mem _ hr) b hb
    · have := H1.apart
      rw [List.pairwise_cons] at this ⊢
      exact ⟨fun r hr b hb => this.1 r hr b (by simpa [Res.has, Value.ownBlock] using hb), this.2⟩
  exact hK' _ _ (k w.heap.size h _ _ (H2.put (some t) _ ht) Q hQ)
end
end Go.Hl
