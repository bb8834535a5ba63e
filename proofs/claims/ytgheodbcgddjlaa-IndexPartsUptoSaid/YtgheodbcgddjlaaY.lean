/- A range over a function, by the rules on symbolic states: the caller's own memory is handed to the iterator as one thing that only a round turns. -/
import Derived.Test.YtgheodbcgddjlaaR
import Derived.RangeFuncLeaves
set_option linter.unusedVariables false
set_option linter.unusedSimpArgs false
namespace Go.Hl
open Go.RowKit Go.Grow

/-! ### A call of yield -/
def YieldCt (P : Program) (l : Nat) (args : Array Value) (R : List Res) (Fc : Hp → Prop) (φ : Value → List Res → Hp → Prop) : Prop :=
  ∀ h w, Hsub h w → Fc h → ResOk R h w → ∃ fn tmps assign body, (Instr.yield l args).run P w = .ok (.round l fn tmps assign body) w ∧
    RoundIn Fence.wide 0 P l fn tmps assign body w fun e w' => ∃ v R' h', e = .returned v ∧ Left R h w φ v R' h' w'

theorem roundIn_any {F : Fence} {P : Program} {m l : Nat} {f : FuncId} {tmps : Array Value} {assign body : Code} {w : World} {R : Ending → World → Prop} (hF : F = Fence.wide ∨ ∃ k, F = Fence.wide.inRound k) (h : RoundIn Fence.wide 0 P l f tmps assign body w R) : RoundIn F m P l f tmps assign body w R := by
  rcases hF with rfl | ⟨k, rfl⟩
  · exact ⟨h.1, fun c cs _ => h.2 c cs (room_wide _)⟩
  · exact ⟨h.1, fun c cs _ => h.2 c cs (room_wide _)⟩

section
variable {F : Fence} {P : Program} {C : Ctx} {Φ : Outs} {ops : Array Oper} {l : List Oper} {K : St → Prop} {sl : List (Nat × Value)} {res : List Res} {fc : Hp → Prop} {mn : Mono fc} {df : List Deferred} {t : Tmp} {ty : TypeId} {ps : String} {af : Array Edge}

theorem agrs {a : Act} (H : Agr sl a.eval) : ∀ (l : List Operand) (r : List Value), l.map (evl sl) = r.map some → l.map a.eval = r := by
  intro l
  induction l with
  | nil => intro r hr; cases r <;> simp_all
  | cons x l ih =>
    intro r hr
    cases r with
    | nil => simp at hr
    | cons b r => simp only [List.map_cons, List.cons.injEq] at hr ⊢; exact ⟨H _ _ hr.1, ih r hr.2⟩

theorem R_yield (hF : F = Fence.wide ∨ ∃ k, F = Fence.wide.inRound k) {g : Operand} {ly : Nat} {xs : Array Operand} {vs : List Value} {ts : Array TypeId} {R rest : List Res} {Fc : Hp → Prop} {φ : Value → List Res → Hp → Prop}
    (hg : evl sl g = some (.func (.yield ly) #[] #[])) (hxs : xs.toList.map (evl sl) = vs.map some) (hc : YieldCt P ly vs.toArray R Fc φ) (hperm : res.Perm (R ++ rest)) (hFc : ∀ h, fc h → Fc h) (hm : ∀ v R', Mono (φ v R')) (ht : decide (t < C.n) = true)
    (k : ∀ v R', JL F P C ops ⟨(t, v) :: sl, R' ++ rest, fun h => fc h ∧ φ v R' h, (by have := hm v R'; infer_instance), df⟩ l K) : JL F P C ops ⟨sl, res, fc, mn, df⟩ (⟨some t, .call { callee := .value g, args := xs, argTypes := ts }, ty, ps, af, none⟩ :: l) K := fun h a w H Q hQ => by
  have hW : Wide F := by rcases hF with rfl | ⟨k', rfl⟩; exact Wide.wide; exact Wide.round k'
  have e1 : xs.map a.eval = vs.toArray := by rw [← agrs H.agr _ _ hxs]; cases xs; simp
  have hmem : ∀ r, r ∈ res ↔ r ∈ R ∨ r ∈ rest := fun r => by rw [hperm.mem_iff, List.mem_append]
  have hap := pair_perm hperm H.apart
  rw [List.pairwise_append] at hap
  obtain ⟨fn, tmps, assign, body, hy, hr⟩ := hc h w H.sub (hFc h H.facts) ⟨fun r hr => H.res r ((hmem r).2 (.inl hr)), hap.1, fun r hr b hb => (H.fresh r ((hmem r).2 (.inl hr)) b hb).1⟩
  have hex : (execOp a.eval ⟨some t, .call { callee := .value g, args := xs, argTypes := ts }, ty, ps, af, none⟩).run P w = .ok (.round ly fn tmps assign body) w := by
    unfold execOp
    simp [resolve, H.agr _ _ hg, Deferred.ofValue, invoke, e1, hy]
  refine wpListIn_plain rfl fun K' hK' => ⟨fun f _ => hW.fn f, ?_⟩
  rw [Oper.semAt_eq _ _ _ (fun c e => by cases e), hex]
  refine ⟨fun e => (by rw [hW.depth] at e; cases e), (roundIn_any hF hr).mono ?_⟩
  rintro e w' ⟨v, R', h', rfl, L⟩
  exact hK' _ _ (k v R' h' _ w' ((H.after hperm L (hm v R')).put (some t) v ht) Q hQ)

/-! ### An iterator's contract -/
/-- The function gf, called with a yield and lb, tells the elements xs, one after the other, until a round says no; ψ: its own memory at the end. -/
def SeqCt {α : Type} (P : Program) (gf : FuncId) (lb : List Value) (Rit : List Res) (Fc : Hp → Prop) (encs : α → List Value) (xs : List α) (ψ : List Res → Hp → Prop) : Prop :=
  ∀ (l : Nat) (Y Z : List α → Res → Hp → Prop), (∀ pre r, Mono (Y pre r)) → (∀ pre r, Mono (Z pre r)) →
    (∀ pre x suf r, xs = pre ++ x :: suf → YieldCt P l (encs x).toArray [r] (Y pre r) (fun v R' h => ∃ r', R' = [r'] ∧ ((v = .bool true ∧ Y (pre ++ [x]) r' h) ∨ (v = .bool false ∧ Z (pre ++ [x]) r' h)))) →
    ∀ r, Ct P gf (#[.func (.yield l) #[] #[]] ++ lb.toArray) (r :: Rit) (fun h => Fc h ∧ Y [] r h)
      (fun _ R' h => ∃ r' Rit', R' = r' :: Rit' ∧ ((Y xs r' h ∧ ψ Rit' h) ∨ ∃ pre, pre <+: xs ∧ Z pre r' h))

/-! ### The statement -/
/-- What lies outside of an activation's ken. -/
def outs (C : Ctx) (k : Nat) : Prop := k < C.W0.heap.size ∧ ¬ C.M k ∧ C.h0 k = none
def FrI (C : Ctx) (rs : List Res) (w : World) : Prop :=
  w.os = C.W0.os ∧ w.tape = C.W0.tape ∧ w.output = C.W0.output ∧ C.W0.heap.size ≤ w.heap.size ∧ (∀ k, outs C k → w.heap[k]? = C.W0.heap[k]?) ∧ ∀ r ∈ rs, r.holds w
theorem FrI.loc {C : Ctx} {rs : List Res} {U : Nat → Prop} (h1 : ∀ k, outs C k → U k) (h2 : ∀ r ∈ rs, ∀ b, r.has b → U b) : LocalTo U (FrI C rs) := fun w w' ⟨a, b, c, d, e, f⟩ ho ht hp hs hk =>
  ⟨ho.trans a, ht.trans b, hp.trans c, Nat.le_trans d hs, fun k hk' => (hk k (h1 k hk')).trans (e k hk'), fun r hr => Res.holds_keep (f r hr) ⟨ho, ht, hp, hs⟩ fun b hb => hk b (h2 r hr b hb)⟩

/-- The caller's own memory as one thing. -/
structure Framed (C : Ctx) (rs : List Res) (h : Hp) (r : Res) : Prop where
  le0 : Hle C.h0 h
  apart : rs.Pairwise fun r r' => ∀ b, r.has b → ¬ r'.has b
  old : ∀ r ∈ rs, ∀ b, r.has b → C.W0.heap.size ≤ b ∨ C.M b
  form : ∃ U, ∃ (h1 : ∀ k, outs C k → U k) (h2 : ∀ r ∈ rs, ∀ b, r.has b → U b), r = .abs U (FrI C rs) (FrI.loc h1 h2)
theorem Framed.le {C : Ctx} {rs : List Res} {h h' : Hp} {r : Res} (k : Hle h h') (H : Framed C rs h r) : Framed C rs h' r := ⟨H.le0.trans k, H.apart, H.old, H.form⟩

/-- From the thing back to the activation (or to a round of its). -/
theorem Framed.sat {C : Ctx} {rs : List Res} {h : Hp} {r : Res} {w : World} (H : Framed C rs h r) (hs : Hsub h w) (hh : r.holds w) (ho : ∀ b, r.has b → h b = none) (hW : ∀ k o, k < C.W0.heap.size → ¬ C.M k → C.h0 k = some o → C.W0.heap[k]? = some o) {S : St} (hr : S.res = rs) (hf : S.facts h)
    {a : Act} (hz : a.tmps.size = C.n) (hsl : ∀ t v, lk S.slots t = some v → a.tmps[t]? = some v) (hd : a.defers = S.defers) : Sat C S h a w := by
  obtain ⟨le0, apart, old, U, h1, h2, rfl⟩ := H
  obtain ⟨_, i1, i2, i3, i4, i5, i6⟩ := hh
  refine ⟨hz, hsl, hd, i1, i2, i3, i4, fun k hk hM => ?_, le0, hs, fun b o hb => ?_, by rw [hr]; exact i6, fun r hr' b hb => ?_, by rw [hr]; exact apart, hf⟩
  · cases e : C.h0 k with
    | none => exact i5 k ⟨hk, hM, e⟩
    | some o => exact (hs k o (le0 k o e)).trans (hW k o hk hM e).symm
  · cases e : C.h0 b with
    | some o' => rw [le0 b o' e] at hb; cases hb; exact .inl rfl
    | none =>
      by_cases hlt : b < C.W0.heap.size
      · by_cases hM : C.M b
        · exact .inr (.inr hM)
        · have := ho b (h1 b ⟨hlt, hM, e⟩); rw [this] at hb; cases hb
      · exact .inr (.inl (by omega))
  · rw [hr] at hr'
    exact ⟨ho b (h2 r hr' b hb), old r hr' b hb⟩

def pslots : List Tmp → List Value → List (Nat × Value) → List (Nat × Value)
  | p :: l, v :: r, sl => pslots l r ((p, v) :: sl)
  | _, _, sl => sl
theorem fold_size : ∀ (l : List Tmp) (r : List Value) (tm : Array Value), ((l.zip r).foldl (fun t (p, v) => t.setIfInBounds p v) tm).size = tm.size
  | [], _, _ => rfl
  | _ :: _, [], _ => rfl
  | p :: l, v :: r, tm => by simp [fold_size l r]
theorem fold_slots : ∀ (l : List Tmp) (r : List Value) (tm : Array Value) (sl : List (Nat × Value)), (∀ p ∈ l, p < tm.size) → (∀ t v, lk sl t = some v → tm[t]? = some v) → ∀ t v, lk (pslots l r sl) t = some v → ((l.zip r).foldl (fun t (p, v) => t.setIfInBounds p v) tm)[t]? = some v
  | [], _, _, _, _, hs, t, v, h => hs t v h
  | _ :: _, [], _, _, _, hs, t, v, h => hs t v h
  | p :: l, u :: r, tm, sl, hp, hs, t, v, h => by
    refine fold_slots l r (tm.setIfInBounds p u) ((p, u) :: sl) (fun q hq => by simpa using hp q (List.mem_cons_of_mem _ hq)) (fun t' v' h' => ?_) t v h
    simp only [lk] at h'
    split at h'
    · rename_i e; subst e; cases h'; simp [hp _ (List.mem_cons_self ..)]
    · rename_i e; rw [Array.getElem?_setIfInBounds_ne e]; exact hs t' v' h'

def mark (D : Nat) : Deferred := { target := .collected D, args := #[] }
def shut : Obj := .deferred (some [])

/-- How a round may be left. -/
def RPost {α : Type} (C : Ctx) (Tst : List α → St → Prop) (Xst : Code → List α → St → Prop) (pre : List α) (E : List Res) : Exit → St → Prop
  | .normal, S => ∃ S', Tst pre S' ∧ Le C S ⟨[], S'.res ++ E, S'.facts, S'.mono, []⟩
  | .ret, S => ∃ S', Xst .ret pre S' ∧ Le C S ⟨[], S'.res ++ E, S'.facts, S'.mono, []⟩
  | .exit id, S => ∃ S', Xst (.exit id) pre S' ∧ Le C S ⟨[], S'.res ++ E, S'.facts, S'.mono, []⟩
  | _, _ => False

theorem J_range {α : Type} {g : Operand} {pv : Array Tmp} {assign body : Code} {gf : FuncId} {lb : List Value} {Rit rest : List Res} {Fc : Hp → Prop} {encs : α → List Value} {xs : List α} {ψ : List Res → Hp → Prop}
    (hg : evl sl g = some (.func (.func gf) #[] lb.toArray)) (hen : Enters P gf) (hseq : SeqCt P gf lb Rit Fc encs xs ψ) (hψ : ∀ R', Mono (ψ R')) (hperm : res.Perm (Rit ++ rest)) (hF : ∀ h, fc h → Fc h)
    (hps : ∀ x, (encs x).length = pv.size) (hpn : pv.toList.all (fun p => decide (p < C.n)) = true)
    (Tst : List α → St → Prop) (Xst : Code → List α → St → Prop) (h0 : Tst [] ⟨sl, rest, fc, mn, []⟩)
    (round : ∀ (W : World) (h0 : Hp) (M : Nat → Prop) (ly : Nat) (E E' : List Res) (pre : List α) (x : α) (suf : List α) (S : St), xs = pre ++ x :: suf → Tst pre S →
      J (Fence.wide.inRound ly) P ⟨W, h0, M, C.n⟩ ⟨pslots pv.toList (encs x) sl, S.res ++ E, S.facts, S.mono, []⟩ assign (fun e S1 => e = .normal ∧ S1.defers = [] ∧ ∃ r1, S1.res = r1 ++ E ∧
        J (Fence.wide.inRound ly) P ⟨W, h0, M, C.n⟩ ⟨S1.slots, r1 ++ E', S1.facts, S1.mono, []⟩ body (RPost ⟨W, h0, M, C.n⟩ Tst Xst (pre ++ [x]) E')))
    (done : ∀ S D R', Tst xs S → (∃ h, S.facts h ∧ ψ R' h) → Φ .normal ⟨sl, S.res ++ R' ++ [.obj D shut], fun h => S.facts h ∧ ψ R' h, (by have := S.mono; have := hψ R'; infer_instance), mark D :: df⟩)
    (stop : ∀ S D c pre, pre <+: xs → Xst c pre S → J Fence.wide P C ⟨sl, S.res ++ [.obj D shut], S.facts, S.mono, mark D :: df⟩ c Φ) :
    J Fence.wide P C ⟨sl, res, fc, mn, df⟩ (.rangeFunc g pv assign body) Φ := fun hp a w H => by
  have hW0 : ∀ k o, k < C.W0.heap.size → ¬ C.M k → C.h0 k = some o → C.W0.heap[k]? = some o := fun k o hk hM e => (H.keep k hk hM).symm.trans (H.sub k o (H.le0 k o e))
  have hmem : ∀ r, r ∈ res ↔ r ∈ Rit ∨ r ∈ rest := fun r => by rw [hperm.mem_iff, List.mem_append]
  have hap := pair_perm hperm H.apart
  rw [List.pairwise_append] at hap
  obtain ⟨hapI, hapR, hcross⟩ := hap
  refine wpIn_rangeFunc fun fn _ => ?_
  obtain ⟨rec, hrec⟩ : ∃ rec : LoopState → Option Code → Loop, rec = fun st pe => { state := st, pending := pe, fn, tmps := a.tmps, params := pv, assign, body, defers := w.heap.size } := ⟨_, rfl⟩
  obtain ⟨W1, hW1⟩ : ∃ W1, (w.alloc shut).alloc (.loop (rec .ready none)) = W1 := ⟨_, rfl⟩
  have hs1 : W1.heap.size = w.heap.size + 2 := by rw [← hW1]; simp
  have hL1 : W1.heap[w.heap.size + 1]? = some (.loop (rec .ready none)) := by
    rw [← hW1]; have := World.alloc_heap_new (w.alloc shut) (.loop (rec .ready none)); rwa [World.size_alloc] at this
  have hD1 : W1.heap[w.heap.size]? = some shut := by
    rw [← hW1]; exact (Below.heap_alloc _ _ _ (by simp)).trans (World.alloc_heap_new w _)
  have hold : ∀ k, k < w.heap.size → W1.heap[k]? = w.heap[k]? := fun k hk => by
    rw [← hW1]; exact (Below.heap_alloc _ _ _ (by simp; omega)).trans (Below.heap_alloc w _ k hk)
  have hsame : Same w W1 := by rw [← hW1]; exact ⟨rfl, rfl, rfl, by simp; omega⟩
  have hsub1 : Hsub hp W1 := fun b o hb => (hold b (Array.getElem?_eq_some_iff.1 (H.sub b o hb)).1).trans (H.sub b o hb)
  -- the resources of book-keeping, by the record's state
  let E : LoopState → Option Code → List Res := fun st pe => [.obj (w.heap.size + 1) (.loop (rec st pe)), .obj w.heap.size shut]
  let Y : List α → Res → Hp → Prop := fun pre r h => ∃ S, Tst pre S ∧ S.facts h ∧ Framed C (S.res ++ E .ready none) h r
  let Z : List α → Res → Hp → Prop := fun pre r h => ∃ S c, Xst c pre S ∧ S.facts h ∧ Framed C (S.res ++ E .done (some c)) h r
  have mY : ∀ pre r, Mono (Y pre r) := fun pre r => ⟨fun hle ⟨S, h1, h2, h3⟩ => ⟨S, h1, S.mono.le hle h2, h3.le hle⟩⟩
  have mZ : ∀ pre r, Mono (Z pre r) := fun pre r => ⟨fun hle ⟨S, c, h1, h2, h3⟩ => ⟨S, c, h1, S.mono.le hle h2, h3.le hle⟩⟩
  -- the thing, at the start
  have newE : ∀ (st : LoopState) (pe : Option Code) (r : Res), r ∈ E st pe → ∀ b, r.has b → w.heap.size ≤ b ∧ b < w.heap.size + 2 := by
    intro st pe r hr b hb
    simp only [E, List.mem_cons, List.not_mem_nil, or_false] at hr
    rcases hr with rfl | rfl <;> (simp only [Res.has] at hb; omega)
  let U0 : Nat → Prop := fun b => b < w.heap.size + 2 ∧ hp b = none ∧ ∀ r ∈ Rit, ¬ r.has b
  have hnone : ∀ b, w.heap.size ≤ b → hp b = none := fun b hb => by
    cases e : hp b with
    | none => rfl
    | some o => have := (Array.getElem?_eq_some_iff.1 (H.sub b o e)).1; omega
  have u1 : ∀ k, outs C k → U0 k := fun k ⟨hk, hM, hn⟩ => by
    refine ⟨by have := H.grow; omega, ?_, fun r hr hb => ?_⟩
    · cases e : hp k with
      | none => rfl
      | some o =>
        rcases H.new k o e with h1 | h1 | h1
        · rw [hn] at h1; cases h1
        · omega
        · exact absurd h1 hM
    · rcases (H.fresh r ((hmem r).2 (.inl hr)) k hb).2 with h1 | h1
      · omega
      · exact hM h1
  have u2 : ∀ r ∈ rest ++ E .ready none, ∀ b, r.has b → U0 b := fun r hr b hb => by
    rcases List.mem_append.1 hr with hr | hr
    · refine ⟨?_, (H.fresh r ((hmem r).2 (.inr hr)) b hb).1, fun r' hr' hb' => hcross r' hr' r hr b hb' hb⟩
      have := Res.holds_lt (H.res r ((hmem r).2 (.inr hr))) hb; omega
    · have := newE _ _ r hr b hb
      refine ⟨this.2, hnone b this.1, fun r' hr' hb' => ?_⟩
      have := Res.holds_lt (H.res r' ((hmem r').2 (.inl hr'))) hb'; omega
  have apE : ∀ (st : LoopState) (pe : Option Code), (E st pe).Pairwise fun r r' => ∀ b, r.has b → ¬ r'.has b := fun st pe => by
    simp only [E, List.pairwise_cons, List.mem_cons, List.not_mem_nil, or_false, List.Pairwise.nil, and_true]
    refine ⟨fun r' hr' b hb hb' => ?_, fun r' hr' => hr'.elim⟩
    subst hr'
    simp only [Res.has] at hb hb'; omega
  have hf0 : Framed C (rest ++ E .ready none) hp (.abs U0 (FrI C (rest ++ E .ready none)) (FrI.loc u1 u2)) := by
    refine ⟨H.le0, ?_, fun r hr b hb => ?_, U0, u1, u2, rfl⟩
    · rw [List.pairwise_append]
      refine ⟨hapR, apE _ _, fun r hr r' hr' b hb hb' => ?_⟩
      have := newE _ _ r' hr' b hb'
      have := Res.holds_lt (H.res r ((hmem r).2 (.inr hr))) hb; omega
    · rcases List.mem_append.1 hr with hr | hr
      · exact (H.fresh r ((hmem r).2 (.inr hr)) b hb).2
      · have := newE _ _ r hr b hb
        exact .inl (Nat.le_trans H.grow this.1)
  have hh0 : Res.holds W1 (.abs U0 (FrI C (rest ++ E .ready none)) (FrI.loc u1 u2)) := by
    refine ⟨fun b hb => by rw [hs1]; exact hb.1, hsame.os.trans H.os, hsame.tape.trans H.tape, hsame.output.trans H.output, Nat.le_trans H.grow hsame.size, fun k hk => (hold k (Nat.lt_of_lt_of_le hk.1 H.grow)).trans (H.keep k hk.1 hk.2.1), fun r hr => ?_⟩
    rcases List.mem_append.1 hr with hr | hr
    · exact Res.holds_keep (H.res r ((hmem r).2 (.inr hr))) hsame fun b hb => hold b (Res.holds_lt (H.res r ((hmem r).2 (.inr hr))) hb)
    · simp only [E, List.mem_cons, List.not_mem_nil, or_false] at hr
      rcases hr with rfl | rfl
      · exact hL1
      · exact hD1
  refine ⟨w.heap.size + 1, [mark w.heap.size], W1, { target := .fn (.func gf) lb.toArray, args := #[.func (.yield (w.heap.size + 1)) #[] #[]] }, W1, gf,
    #[.func (.yield (w.heap.size + 1)) #[] #[]] ++ lb.toArray, W1, ?_, ?_, fun _ _ => trivial, ?_, fun e => by simp [Fence.wide] at e, ?_⟩
  · rw [← hW1, hrec]; exact run_enterLoop_outer _ _ _ _ _
  · simp only [resolve, H.agr _ _ hg]
    simp [go_sem]
  · simp only [invoke]
    exact hen _ _
  · refine callsIn_wide.2 ?_
    refine ((hseq (w.heap.size + 1) Y Z mY mZ ?_ (.abs U0 (FrI C (rest ++ E .ready none)) (FrI.loc u1 u2))) hp W1 hsub1 ⟨hF hp H.facts, _, h0, H.facts, hf0⟩ ⟨?_, ?_, ?_⟩).mono ?_
    · -- ONE ROUND
      rintro pre x suf r hxs h W hsub ⟨S, hT, hfa, hfr⟩ hok
      have hh := hok.holds r (List.mem_singleton.2 rfl)
      have ho := hok.out r (List.mem_singleton.2 rfl)
      obtain ⟨U, v1, v2, rfl⟩ := hfr.form
      have hL : W.heap[w.heap.size + 1]? = some (.loop (rec .ready none)) := hh.2.2.2.2.2.2 (.obj (w.heap.size + 1) (.loop (rec .ready none))) (by simp [E])
      have hlt := (Array.getElem?_eq_some_iff.1 hL).1
      refine ⟨fn, (pv.zip (encs x).toArray).foldl (fun t (p, v) => t.setIfInBounds p v) a.tmps, assign, body, ?_, ?_⟩
      · have := run_yield (P := P) (args := (encs x).toArray) hL (by rw [hrec]; simpa using hps x)
        rw [hrec] at this
        exact this
      · let C' : Ctx := ⟨W, h, fun k => ∃ r ∈ S.res ++ E .ready none, r.has k, C.n⟩
        have hSat : Sat C' ⟨pslots pv.toList (encs x) sl, S.res ++ E .ready none, S.facts, S.mono, []⟩ h ⟨(pv.zip (encs x).toArray).foldl (fun t (p, v) => t.setIfInBounds p v) a.tmps, []⟩ W := by
          have hzip : (pv.zip (encs x).toArray).foldl (fun t (p, v) => t.setIfInBounds p v) a.tmps = (pv.toList.zip (encs x)).foldl (fun t (p, v) => t.setIfInBounds p v) a.tmps := by
            rw [← Array.foldl_toList]; simp
          refine ⟨?_, ?_, rfl, rfl, rfl, rfl, Nat.le_refl _, fun _ _ _ => rfl, Hle.refl _, hsub, fun b o hb => .inl hb, hh.2.2.2.2.2.2, fun r hr b hb => ⟨ho b (v2 r hr b hb), .inr ⟨r, hr, hb⟩⟩, hfr.apart, hfa⟩
          · show Array.size (Array.foldl _ _ _) = _
            rw [hzip, fold_size]; exact H.size
          · show ∀ t v, _ → (Array.foldl _ _ _)[t]? = _
            rw [hzip]
            refine fold_slots _ _ _ _ (fun p hp => ?_) H.slots
            rw [H.size]; simpa using List.all_eq_true.1 hpn p hp
        refine roundIn_of_wpIn trivial (wpIn_mono (round W h _ _ (E .ready none) (E .busy none) pre x suf S hxs hT h _ W hSat) ?_)
        rintro e1 a1 Wa ⟨S1, h1, ⟨rfl, hd1, r1, hr1, hJ⟩, H1⟩
        have hL1' : Wa.heap[w.heap.size + 1]? = some (.loop (rec .ready none)) := H1.res (.obj (w.heap.size + 1) (.loop (rec .ready none))) (by rw [hr1]; simp [E])
        refine ⟨_, run_beginRound hL1' (by rw [hrec]), ?_⟩
        -- the record turns: a state with another object
        have turn : ∀ {C2 : Ctx} {S2 : St} {h2 : Hp} {a2 : Act} {w2 : World} {r2 : List Res} (st st' : LoopState) (pe pe' : Option Code), Sat C2 S2 h2 a2 w2 → S2.res = r2 ++ E st pe →
            Sat C2 { S2 with res := r2 ++ E st' pe' } h2 a2 (w2.putObj (w.heap.size + 1) (.loop (rec st' pe'))) := by
          intro C2 S2 h2 a2 w2 r2 st st' pe pe' H2 hr2
          have hin : Res.obj (w.heap.size + 1) (.loop (rec st pe)) ∈ S2.res := by rw [hr2]; simp [E]
          have hLL : w2.heap[w.heap.size + 1]? = some (.loop (rec st pe)) := H2.res _ hin
          have hfr2 := H2.fresh _ hin (w.heap.size + 1) rfl
          have hoth : ∀ k, k ≠ w.heap.size + 1 → (w2.putObj (w.heap.size + 1) (.loop (rec st' pe'))).heap[k]? = w2.heap[k]? := fun k hk => World.putObj_heap_other hk
          have hap2 := H2.apart
          rw [hr2, List.pairwise_append] at hap2
          refine ⟨H2.size, H2.slots, H2.defers, H2.os, H2.tape, H2.output, by simpa using H2.grow, fun k hk hM => ?_, H2.le0, fun k o hk => ?_, H2.new, fun r hr => ?_, fun r hr b hb => ?_, ?_, H2.facts⟩
          · refine (hoth k ?_).trans (H2.keep k hk hM)
            rintro rfl
            rcases hfr2.2 with h' | h'
            · omega
            · exact hM h'
          · refine (hoth k ?_).trans (H2.sub k o hk)
            rintro rfl
            rw [hfr2.1] at hk; cases hk
          · rcases List.mem_append.1 hr with hr | hr
            · refine Res.holds_keep (H2.res r (by rw [hr2]; exact List.mem_append_left _ hr)) ⟨rfl, rfl, rfl, by simp⟩ fun b hb => hoth b ?_
              rintro rfl
              exact hap2.2.2 r hr _ (List.mem_cons_self ..) _ hb rfl
            · simp only [E, List.mem_cons, List.not_mem_nil, or_false] at hr
              rcases hr with rfl | rfl
              · exact World.putObj_heap_same (Array.getElem?_eq_some_iff.1 hLL).1
              · exact (hoth _ (by omega)).trans (H2.res (.obj w.heap.size shut) (by rw [hr2]; simp [E]))
          · rcases List.mem_append.1 hr with hr | hr
            · exact H2.fresh r (by rw [hr2]; exact List.mem_append_left _ hr) b hb
            · simp only [E, List.mem_cons, List.not_mem_nil, or_false] at hr
              rcases hr with rfl | rfl
              · exact H2.fresh (.obj (w.heap.size + 1) (.loop (rec st pe))) hin b hb
              · exact H2.fresh (.obj w.heap.size shut) (by rw [hr2]; simp [E]) b hb
          · rw [List.pairwise_append]
            refine ⟨hap2.1, apE _ _, fun r hr r' hr' b hb hb' => ?_⟩
            simp only [E, List.mem_cons, List.not_mem_nil, or_false] at hr'
            rcases hr' with rfl | rfl
            · exact hap2.2.2 r hr (.obj (w.heap.size + 1) (.loop (rec st pe))) (by simp [E]) b hb hb'
            · exact hap2.2.2 r hr (.obj w.heap.size shut) (by simp [E]) b hb hb'
        have H1' := turn .ready .busy none none H1 hr1
        have H1b : Sat C' ⟨S1.slots, r1 ++ E .busy none, S1.facts, S1.mono, []⟩ h1 a1 (Wa.putObj (w.heap.size + 1) (.loop (rec .busy none))) := H1'.weaken (fun _ _ z => z) rfl hd1.symm id
        have hbusy : (Wa.putObj (w.heap.size + 1) (.loop { rec .ready none with state := .busy })) = Wa.putObj (w.heap.size + 1) (.loop (rec .busy none)) := by rw [hrec]
        rw [hbusy]
        refine wpIn_mono (hJ h1 a1 _ H1b) ?_
        -- the end of a round
        have fin : ∀ (S3 : St) (jump : Option Code) (S2 : St) (h2 : Hp) (a2 : Act) (W2 : World), Sat C' S2 h2 a2 W2 → Le C' S2 ⟨[], S3.res ++ E .busy none, S3.facts, S3.mono, []⟩ →
            ∃ r', (Instr.endRound (w.heap.size + 1) jump).run P W2 = .ok (.bool jump.isNone) (W2.putObj (w.heap.size + 1) (.loop (rec (if jump.isNone then .ready else .done) jump))) ∧
              Framed C (S3.res ++ E (if jump.isNone then .ready else .done) jump) h2 r' ∧ S3.facts h2 ∧
              ∀ φ : Value → List Res → Hp → Prop, φ (.bool jump.isNone) [r'] h2 → Left [.abs U (FrI C (S.res ++ E .ready none)) (FrI.loc v1 v2)] h W φ (.bool jump.isNone) [r'] h2 (W2.putObj (w.heap.size + 1) (.loop (rec (if jump.isNone then .ready else .done) jump))) := by
          intro S3 jump S2 h2 a2 W2 H2 hle
          have H3 := hle _ _ _ H2
          have hL3 : W2.heap[w.heap.size + 1]? = some (.loop (rec .busy none)) := H3.res (.obj (w.heap.size + 1) (.loop (rec .busy none))) (by simp [E])
          have H4 := turn (r2 := S3.res) .busy (if jump.isNone then .ready else .done) none jump H3 rfl
          obtain ⟨W4, hW4⟩ : ∃ W4, W2.putObj (w.heap.size + 1) (.loop (rec (if jump.isNone then .ready else .done) jump)) = W4 := ⟨_, rfl⟩
          rw [hW4] at H4
          have hrun : (Instr.endRound (w.heap.size + 1) jump).run P W2 = .ok (.bool jump.isNone) W4 := by
            have := run_endRound (P := P) jump hL3
            rw [← hW4, hrec]
            rw [hrec] at this
            exact this
          obtain ⟨rs, hrs⟩ : ∃ rs, S3.res ++ E (if jump.isNone then .ready else .done) jump = rs := ⟨_, rfl⟩
          rw [hrs] at H4
          have hnM : ∀ k, outs C k → ¬ C'.M k := fun k hk ⟨r, hr, hb⟩ => by
            rcases hfr.old r hr k hb with h' | h'
            · have := hk.1; omega
            · exact hk.2.1 h'
          have hUM : ∀ k, C'.M k → U k := fun k ⟨r, hr, hb⟩ => v2 r hr k hb
          have hgrow := hh.2.2.2.2.1
          let U' : Nat → Prop := fun b => (U b ∨ W.heap.size ≤ b) ∧ b < W4.heap.size ∧ h2 b = none
          have n1 : ∀ k, outs C k → U' k := fun k hk => by
            have hU := v1 k hk
            have hkW : k < W.heap.size := hh.1 k hU
            refine ⟨.inl hU, Nat.lt_of_lt_of_le hkW H4.grow, ?_⟩
            cases e : h2 k with
            | none => rfl
            | some o =>
              rcases H4.new k o e with h' | h' | h'
              · have := ho k hU; rw [show C'.h0 k = h k from rfl] at h'; rw [this] at h'; cases h'
              · have : W.heap.size ≤ k := h'; omega
              · exact absurd h' (hnM k hk)
          have n2 : ∀ r ∈ rs, ∀ b, r.has b → U' b := fun r hr b hb => by
            have hfb := H4.fresh r hr b hb
            refine ⟨?_, Res.holds_lt (H4.res r hr) hb, hfb.1⟩
            rcases hfb.2 with h' | h'
            · exact .inr h'
            · exact .inl (hUM b h')
          have hfrI : FrI C rs W4 := by
            obtain ⟨j0, j1, j2, j3, j4, j5, _⟩ := hh
            exact ⟨H4.os.trans j1, H4.tape.trans j2, H4.output.trans j3, Nat.le_trans j4 H4.grow, fun k hk => (H4.keep k (j0 k (v1 k hk)) (hnM k hk)).trans (j5 k hk), H4.res⟩
          refine ⟨.abs U' (FrI C rs) (FrI.loc n1 n2), hW4 ▸ hrun, ?_, H4.facts, fun φ hφ => ?_⟩
          · rw [hrs]
            refine ⟨hfr.le0.trans H4.le0, H4.apart, fun r hr b hb => ?_, U', n1, n2, rfl⟩
            rcases (H4.fresh r hr b hb).2 with h' | ⟨r0, hr0, hb0⟩
            · exact .inl (Nat.le_trans hgrow h')
            · exact hfr.old r0 hr0 b hb0
          · rw [hW4]
            refine ⟨H4.os, H4.tape, H4.output, H4.grow, fun k hk hno => H4.keep k hk (fun hM => hno _ (List.mem_singleton.2 rfl) (hUM k hM)), H4.le0, H4.sub, fun b o hb => ?_, ⟨?_, List.pairwise_singleton .., ?_⟩, ?_, hφ⟩
            · rcases H4.new b o hb with h' | h' | h'
              · exact .inl h'
              · exact .inr (.inl h')
              · exact .inr (.inr ⟨_, List.mem_singleton.2 rfl, hUM b h'⟩)
            · intro r hr
              rw [List.mem_singleton] at hr; subst hr
              exact ⟨fun b hb => hb.2.1, hfrI⟩
            · intro r hr b hb
              rw [List.mem_singleton] at hr; subst hr
              exact hb.2.2
            · intro r hr b hb
              rw [List.mem_singleton] at hr; subst hr
              rcases hb.1 with h' | h'
              · exact .inr ⟨_, List.mem_singleton.2 rfl, h'⟩
              · exact .inl h'
        rintro e2 a2 W2 ⟨S2, h2, hRP, H2⟩
        cases e2 with
        | normal =>
          obtain ⟨S3, hT3, hle⟩ := hRP
          obtain ⟨r', hrun, hfr', hfa', hL'⟩ := fin S3 none S2 h2 a2 W2 H2 hle
          exact ⟨_, _, hrun, _, [r'], h2, rfl, hL' _ ⟨r', rfl, .inl ⟨rfl, S3, hT3, hfa', hfr'⟩⟩⟩
        | ret =>
          obtain ⟨S3, hT3, hle⟩ := hRP
          obtain ⟨r', hrun, hfr', hfa', hL'⟩ := fin S3 (some .ret) S2 h2 a2 W2 H2 hle
          exact ⟨_, _, hrun, _, [r'], h2, rfl, hL' _ ⟨r', rfl, .inr ⟨rfl, S3, .ret, hT3, hfa', hfr'⟩⟩⟩
        | exit id =>
          obtain ⟨S3, hT3, hle⟩ := hRP
          obtain ⟨r', hrun, hfr', hfa', hL'⟩ := fin S3 (some (.exit id)) S2 h2 a2 W2 H2 hle
          exact ⟨_, _, hrun, _, [r'], h2, rfl, hL' _ ⟨r', rfl, .inr ⟨rfl, S3, .exit id, hT3, hfa', hfr'⟩⟩⟩
        | goto t => exact hRP.elim
        | panic ch => exact hRP.elim
        | outgrown => exact hRP.elim
    · intro r hr
      rcases List.mem_cons.1 hr with rfl | hr
      · exact hh0
      · exact Res.holds_keep (H.res r ((hmem r).2 (.inl hr))) hsame fun b hb => hold b (Res.holds_lt (H.res r ((hmem r).2 (.inl hr))) hb)
    · exact List.pairwise_cons.2 ⟨fun r hr b hb hb' => hb.2.2 r hr hb', hapI⟩
    · intro r hr b hb
      rcases List.mem_cons.1 hr with rfl | hr
      · exact hb.2.1
      · exact (H.fresh r ((hmem r).2 (.inl hr)) b hb).1
    · -- BEHIND THE ITERATOR
      rintro e W2 ⟨v, R', h2, rfl, L⟩
      obtain ⟨r', Rit', rfl, hpost⟩ := L.post
      have ends : ∀ (S : St) (st : LoopState) (pe : Option Code), st ≠ .busy → S.facts h2 → Framed C (S.res ++ E st pe) h2 r' →
          (Instr.endLoop (w.heap.size + 1)).run P W2 = .ok pe (W2.putObj (w.heap.size + 1) (.loop (rec .exhausted pe))) ∧
          ∀ (G : Hp → Prop) (mG : Mono G), G h2 → Sat C ⟨sl, S.res ++ Rit' ++ [.obj w.heap.size shut], fun h => S.facts h ∧ G h, ⟨fun hle x => ⟨S.mono.le hle x.1, mG.le hle x.2⟩⟩, mark w.heap.size :: df⟩ h2 { a with defers := [mark w.heap.size] ++ a.defers } (W2.putObj (w.heap.size + 1) (.loop (rec .exhausted pe))) := by
        intro S st pe hst hfa hfr
        have hh := L.ok.holds r' (List.mem_cons_self ..)
        have ho := L.ok.out r' (List.mem_cons_self ..)
        have hsat : Sat C ⟨sl, S.res ++ E st pe, S.facts, S.mono, mark w.heap.size :: df⟩ h2 { a with defers := [mark w.heap.size] ++ a.defers } W2 := hfr.sat (S := ⟨sl, S.res ++ E st pe, S.facts, S.mono, mark w.heap.size :: df⟩) (a := { a with defers := [mark w.heap.size] ++ a.defers }) L.sub hh ho hW0 rfl hfa H.size H.slots (by show [mark w.heap.size] ++ a.defers = _; rw [H.defers]; rfl)
        obtain ⟨U, v1, v2, rfl⟩ := hfr.form
        have hL : W2.heap[w.heap.size + 1]? = some (.loop (rec st pe)) := hsat.res (.obj (w.heap.size + 1) (.loop (rec st pe))) (by simp [E])
        have hfrL := hsat.fresh (.obj (w.heap.size + 1) (.loop (rec st pe))) (by simp [E]) _ rfl
        have hoth : ∀ k, k ≠ w.heap.size + 1 → (W2.putObj (w.heap.size + 1) (.loop (rec .exhausted pe))).heap[k]? = W2.heap[k]? := fun k hk => World.putObj_heap_other hk
        have hULc : U (w.heap.size + 1) := v2 (.obj (w.heap.size + 1) (.loop (rec st pe))) (by simp [E]) _ rfl
        have hapk := L.ok.apart
        rw [List.pairwise_cons] at hapk
        have hapS := hsat.apart
        rw [List.pairwise_append] at hapS
        refine ⟨by have := run_endLoop (P := P) hL (by rw [hrec]; exact hst); rw [hrec] at this ⊢; exact this, fun G mG hG => ⟨hsat.size, hsat.slots, hsat.defers, hsat.os, hsat.tape, hsat.output, by simpa using hsat.grow, fun k hk hM => ?_, hsat.le0, fun k o hk => ?_, hsat.new, fun r hr => ?_, fun r hr b hb => ?_, ?_, ⟨hfa, hG⟩⟩⟩
        · refine (hoth k ?_).trans (hsat.keep k hk hM)
          rintro rfl
          rcases hfrL.2 with h' | h'
          · omega
          · exact hM h'
        · refine (hoth k ?_).trans (hsat.sub k o hk)
          rintro rfl
          rw [hfrL.1] at hk; cases hk
        · have hne : ∀ r ∈ S.res ++ Rit' ++ [.obj w.heap.size shut], ∀ b, r.has b → b ≠ w.heap.size + 1 := fun r hr b hb e => by
            subst e
            rcases List.mem_append.1 hr with hr | hr
            · rcases List.mem_append.1 hr with hr | hr
              · exact hapS.2.2 r hr _ (List.mem_cons_self ..) _ hb rfl
              · exact hapk.1 r hr _ hULc hb
            · rw [List.mem_singleton] at hr; subst hr
              simp only [Res.has] at hb; omega
          have hold2 : r.holds W2 := by
            rcases List.mem_append.1 hr with hr | hr
            · rcases List.mem_append.1 hr with hr | hr
              · exact hsat.res r (List.mem_append_left _ hr)
              · exact L.ok.holds r (List.mem_cons_of_mem _ hr)
            · rw [List.mem_singleton] at hr; subst hr
              exact hsat.res (.obj w.heap.size shut) (by simp [E])
          exact Res.holds_keep hold2 ⟨rfl, rfl, rfl, by simp⟩ fun b hb => hoth b (hne r hr b hb)
        · rcases List.mem_append.1 hr with hr | hr
          · rcases List.mem_append.1 hr with hr | hr
            · exact hsat.fresh r (List.mem_append_left _ hr) b hb
            · have hnb := L.ok.out r (List.mem_cons_of_mem _ hr) b hb
              refine ⟨hnb, ?_⟩
              by_cases hlt : b < C.W0.heap.size
              · by_cases hM : C.M b
                · exact .inr hM
                · cases e : C.h0 b with
                  | some o => have := hsat.le0 b o e; rw [hnb] at this; cases this
                  | none => exact absurd hb (hapk.1 r hr b (v1 b ⟨hlt, hM, e⟩))
              · exact .inl (by omega)
          · rw [List.mem_singleton] at hr; subst hr
            exact hsat.fresh (.obj w.heap.size shut) (by simp [E]) b hb
        · rw [List.pairwise_append, List.pairwise_append]
          refine ⟨⟨hapS.1, hapk.2, fun r hr r2 hr2 b hb hb2 => hapk.1 r2 hr2 b (v2 r (List.mem_append_left _ hr) b hb) hb2⟩, List.pairwise_singleton .., fun r hr r2 hr2 b hb hb2 => ?_⟩
          rw [List.mem_singleton] at hr2; subst hr2
          rcases List.mem_append.1 hr with hr | hr
          · exact hapS.2.2 r hr (.obj w.heap.size shut) (by simp [E]) b hb hb2
          · exact hapk.1 r hr b (v2 (.obj w.heap.size shut) (by simp [E]) b hb2) hb
      rcases hpost with ⟨⟨S, hT, hfa, hfr⟩, hψ'⟩ | ⟨pre, hpre, S, c, hX, hfa, hfr⟩
      · obtain ⟨hrun, hs⟩ := ends S .ready none (by decide) hfa hfr
        refine ⟨none, _, hrun, _, h2, done S w.heap.size Rit' hT ⟨h2, hfa, hψ'⟩, ?_⟩
        exact hs (ψ Rit') (hψ Rit') hψ'
      · obtain ⟨hrun, hs⟩ := ends S .done (some c) (by decide) hfa hfr
        refine ⟨some c, _, hrun, stop S w.heap.size c pre hpre hX h2 _ _ ?_⟩
        have := hs (fun _ => True) inferInstance trivial
        have hap := this.apart
        rw [List.append_assoc, List.pairwise_append, List.pairwise_append] at hap
        have sub : ∀ r ∈ S.res ++ [Res.obj w.heap.size shut], r ∈ S.res ++ Rit' ++ [.obj w.heap.size shut] := fun r hr => by
          rcases List.mem_append.1 hr with hr | hr
          · exact List.mem_append_left _ (List.mem_append_left _ hr)
          · exact List.mem_append_right _ hr
        exact ⟨this.size, this.slots, this.defers, this.os, this.tape, this.output, this.grow, this.keep, this.le0, this.sub, this.new, fun r hr => this.res r (sub r hr), fun r hr => this.fresh r (sub r hr),
          List.pairwise_append.2 ⟨hap.1, hap.2.1.2.1, fun r hr r2 hr2 => hap.2.2 r hr r2 (List.mem_append_right _ hr2)⟩, this.facts.1⟩
end
end Go.Hl
