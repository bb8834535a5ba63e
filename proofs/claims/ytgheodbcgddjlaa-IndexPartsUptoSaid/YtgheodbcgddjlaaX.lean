/- Rules for what makes and reads rows: literals, append, make, slices, strings; the end of a function that held a range over a function. -/
import Derived.Test.YtgheodbcgddjlaaY
import Derived.Maps.AppendAt
import Derived.Laws.OwnMore
import Derived.Laws.MakeOwn
import Derived.Laws.IdiomStrings
import Derived.Lib.ConvBytes
import Derived.Laws.BytesString
set_option linter.unusedVariables false
set_option linter.unusedSimpArgs false
namespace Go.Hl
open Go.RowKit Go.Grow

/-! ### Composite literals -/
def clist : Value → List Value
  | .agg cs => cs.toList
  | v => [v]
theorem cells_clist (v : Value) : v.cells = (clist v).toArray := by cases v <;> simp [Value.cells, clist]
def lfill (place : Nat → Option (Nat × Nat)) : List Value → List (Nat × Value) → Option (List Value)
  | cs, [] => some cs
  | cs, (i, v) :: r => match place i with
    | none => none
    | some (off, size) => if (clist v).length = size ∧ off + size ≤ cs.length then lfill place (cs.take off ++ clist v ++ cs.drop (off + size)) r else none
theorem fold_set (vs : List Value) : ∀ (off k : Nat) (cs : List Value), off + k + vs.length ≤ cs.length →
    ((vs.zipIdx k).foldl (fun (cs : Array Value) (p : Value × Nat) => cs.setIfInBounds (off + p.2) p.1) cs.toArray) = (cs.take (off + k) ++ vs ++ cs.drop (off + k + vs.length)).toArray := by
  induction vs with
  | nil => intro off k cs _; simp
  | cons v vs ih =>
    intro off k cs h
    simp only [List.length_cons] at h
    simp only [List.zipIdx_cons, List.foldl_cons]
    have e : (cs.toArray.setIfInBounds (off + k) v) = (cs.set (off + k) v).toArray := by simp
    rw [e, ih off (k + 1) _ (by simp; omega)]
    congr 1
    apply List.ext_getElem?
    intro i
    simp only [List.getElem?_append, List.getElem?_take, List.getElem?_drop, List.getElem?_set, List.length_append, List.length_take, List.length_set, List.length_cons]
    grind
theorem fill_lfill (place : Nat → Option (Nat × Nat)) : ∀ (r : List (Nat × Value)) (cs cs' : List Value), lfill place cs r = some cs' → Instr.fill place cs.toArray r = some cs'.toArray
  | [], cs, cs', h => by simp only [lfill, Option.some.injEq] at h; subst h; rfl
  | (i, v) :: r, cs, cs', h => by
    simp only [lfill] at h
    unfold Instr.fill
    cases hp : place i with
    | none => rw [hp] at h; cases h
    | some p =>
      obtain ⟨off, size⟩ := p
      rw [hp] at h
      simp only at h ⊢
      split at h
      · rename_i hc
        obtain ⟨h1, h2⟩ := hc
        have e1 : v.cells.size = size := by rw [cells_clist]; simpa using h1
        rw [if_neg (by simp [e1]; omega)]
        have e2 : v.cells.zipIdx.foldl (fun (cs : Array Value) (x : Value × Nat) => cs.setIfInBounds (off + x.2) x.1) cs.toArray = (cs.take off ++ clist v ++ cs.drop (off + size)).toArray := by
          have := fold_set (clist v) off 0 cs (by omega)
          rw [cells_clist, ← Array.foldl_toList]
          simp only [Array.toList_zipIdx]
          rw [this, h1]
          simp
        have e3 := fill_lfill place r _ _ h
        rw [← e2] at e3
        exact e3
      · cases h

section
variable {P : Program} {sl : List (Nat × Value)} {x y z : Operand} {d : Option Tmp} {ty : TypeId} {ps : String} {af : Array Edge} {gd : Option (Nat × Bool)}

theorem parts_agr {ρ : Operand → Value} (H : Agr sl ρ) : ∀ (l : List (Nat × Operand)) (r : List (Nat × Value)), l.map (fun p => (p.1, evl sl p.2)) = r.map (fun p => (p.1, some p.2)) → l.map (fun p => (p.1, ρ p.2)) = r := by
  intro l
  induction l with
  | nil => intro r hr; cases r <;> simp_all
  | cons x l ih =>
    intro r hr
    cases r with
    | nil => simp at hr
    | cons b r =>
      simp only [List.map_cons, List.cons.injEq, Prod.mk.injEq] at hr ⊢
      refine ⟨?_, ih r hr.2⟩
      rw [hr.1.1, H _ _ hr.1.2]

/-- The places of a struct's fields. -/
def placesB (P : Program) : List Field → List Nat → Bool
  | [], [] => true
  | f :: fs, s :: ss => (match P.info? f.type with | some ti => ti.size == s | none => false) && placesB P fs ss
  | _, _ => false
def place2 : List Field → List Nat → List (Nat × Nat)
  | f :: fs, s :: ss => (f.offset, s) :: place2 fs ss
  | _, _ => []
theorem run_places (w : World) : ∀ (fs : List Field) (ss : List Nat), placesB P fs ss = true → (fs.mapM (fun f => do pure (f.offset, ← sizeOf f.type) : Field → Sem (Nat × Nat))).run P w = .ok (place2 fs ss) w
  | [], [], _ => by simp [place2]
  | f :: fs, s :: ss, h => by
    simp only [placesB, Bool.and_eq_true] at h
    have ih := run_places w fs ss h.2
    cases hi : P.info? f.type with
    | none => rw [hi] at h; simp at h
    | some ti =>
      rw [hi] at h
      have hs : ti.size = s := by simpa using h.1
      have hs1 : (sizeOf f.type).run P w = .ok s w := by simp [sizeOf, typeInfo, hi, hs]
      simp only [List.mapM_cons, Sem.run_bind, hs1, Result.andThen_ok, Sem.run_pure, ih, place2]
  | [], _ :: _, h => by simp [placesB] at h
  | _ :: _, [], h => by simp [placesB] at h

theorem P_build {t : TypeId} {parts : Array (Nat × Operand)} {fs : Array Field} {ti : TypeInfo} {zv : Value} (ss : List Nat) {ivs : List (Nat × Value)} {cs : List Value} (hu : P.underlying t = some (.struct fs)) (hi : P.info? t = some ti) (hz : ti.zero = some zv) (hpl : placesB P fs.toList ss = true)
    (hp : parts.toList.map (fun p => (p.1, evl sl p.2)) = ivs.map (fun p => (p.1, some p.2))) (hf : lfill (fun i => (place2 fs.toList ss)[i]?) (clist zv) ivs = some cs) : Pure P sl ⟨d, .build t parts, ty, ps, af, gd⟩ (.agg cs.toArray) := fun ρ hρ w => by
  have e := parts_agr hρ _ _ hp
  have hpl' := run_places (P := P) w fs.toList ss hpl
  have hm : (fs.mapM (fun f => do pure (f.offset, ← sizeOf f.type) : Field → Sem (Nat × Nat))).run P w = .ok (place2 fs.toList ss).toArray w := by
    rw [Array.mapM_eq_mapM_toList]
    show Sem.run P (List.mapM _ _ >>= fun l => pure l.toArray) w = _
    rw [Sem.run_bind, hpl']
    simp
  have hz' : (zeroValue t).run P w = .ok zv w := by simp [zeroValue, typeInfo, hi, hz]
  have hpe : (parts.map fun (i, x) => (i, ρ x)).toList = ivs := by rw [Array.toList_map]; exact e
  have hfl : Instr.fill (fun x : Nat => (place2 fs.toList ss).toArray[x]?) (clist zv).toArray ivs = some cs.toArray := by
    have := fill_lfill _ _ _ _ hf
    have hg : (fun x : Nat => (place2 fs.toList ss).toArray[x]?) = fun i => (place2 fs.toList ss)[i]? := by funext i; simp
    rw [hg]; exact this
  unfold execOp
  simp only [Instr.build, Sem.run_bind, hz', Result.andThen_ok, run_underlying hu, hm, cells_clist, hpe, hfl, Sem.run_pure]

theorem P_builda {t e : TypeId} {n : Nat} {parts : Array (Nat × Operand)} {ti te : TypeInfo} {zv : Value} {ivs : List (Nat × Value)} {cs : List Value} (hu : P.underlying t = some (.array n e)) (hi : P.info? t = some ti) (hz : ti.zero = some zv) (he : P.info? e = some te)
    (hp : parts.toList.map (fun p => (p.1, evl sl p.2)) = ivs.map (fun p => (p.1, some p.2))) (hf : lfill (fun i => some (i * te.size, te.size)) (clist zv) ivs = some cs) : Pure P sl ⟨d, .build t parts, ty, ps, af, gd⟩ (.agg cs.toArray) := fun ρ hρ w => by
  have e := parts_agr hρ _ _ hp
  have hz' : (zeroValue t).run P w = .ok zv w := by simp [zeroValue, typeInfo, hi, hz]
  have hpe : (parts.map fun (i, x) => (i, ρ x)).toList = ivs := by rw [Array.toList_map]; exact e
  have hfl := fill_lfill _ _ _ _ hf
  unfold execOp
  simp only [Instr.build, Sem.run_bind, hz', Result.andThen_ok, run_underlying hu, cells_clist, hpe]
  simp [sizeOf, typeInfo, he, hfl]

theorem P_slicea {t e : TypeId} {bk off n : Nat} (h : evl sl x = some (.pointer (some ⟨bk, off, none⟩))) (hu : P.underlying t = some (.array n e)) (hti : (P.info? e).isSome = true) (hn : decide (n ≠ 0) = true) :
    Pure P sl ⟨d, .slice t x none none none, ty, ps, af, gd⟩ (.slice (some ⟨bk, off, none⟩) n n) := fun ρ hρ w => by
  obtain ⟨ti, hti⟩ := Option.isSome_iff_exists.1 hti
  have hn' : n ≠ 0 := of_decide_eq_true hn
  unfold execOp
  simp only [hρ _ _ h, Sem.run_bind]
  simp [Instr.sliceAt, run_underlying hu, Instr.sureAddr, Instr.sliceBounds, sizeOf, typeInfo, hti, add_none, hn']
theorem P_indexv {t e : TypeId} {n i : Nat} {k : IntKind} {cs vs : List Value} {te : TypeInfo} {de : TypeDesc} (h : evl sl x = some (.agg cs.toArray)) (h2 : evl sl y = some (.int k i)) (hu : P.underlying t = some (.array n e)) (hde : P.underlying e = some de) (hna : aggB de = true) (hti : P.info? e = some te) (hi : i < n) (hv : (cs.drop (i * te.size)).take te.size = vs) (hf : i * te.size + te.size ≤ cs.length) :
    Pure P sl ⟨d, .index t x y, ty, ps, af, gd⟩ (.agg vs.toArray) := fun ρ hρ w => by
  subst hv
  unfold execOp
  simp only [hρ _ _ h, hρ _ _ h2, Sem.run_bind]
  have e1 : cs.toArray.extract (i * te.size) (i * te.size + te.size) = ((cs.drop (i * te.size)).take te.size).toArray := by
    apply Array.ext'
    simp [List.drop_take]
  simp [Instr.index, run_underlying hu, asIntOf, sizeOf, typeInfo, hti, hi, part, run_isAgg hde, hna, hf, e1]

/-! ### Numbers -/
theorem P_convi {s t : TypeId} {k k' : IntKind} {ds : TypeDesc} {a : Int} (h : evl sl x = some (.int k a)) (hs : P.underlying s = some ds) (ht : P.underlying t = some (.int k')) (c : Int) (hc : k'.wrap a = c) : Pure P sl ⟨d, .convert s t x, ty, ps, af, gd⟩ (.int k' c) := fun ρ hρ w => by
  subst hc
  unfold execOp
  simp [hρ _ _ h, convert, run_underlying hs, run_underlying ht, Conv.intToInt]
variable {t : TypeId} {k k2 : IntKind} {a b : Int}
theorem P_xor (h : evl sl x = some (.int k a)) (h2 : evl sl y = some (.int k b)) {t' : TypeId} : Pure P sl ⟨d, .binOp .xor t x y t', ty, ps, af, gd⟩ (.int k (bits .xor k a b)) := fun ρ hρ w => by
  unfold execOp; simp [hρ _ _ h, hρ _ _ h2, go_sem]
theorem P_or (h : evl sl x = some (.int k a)) (h2 : evl sl y = some (.int k b)) {t' : TypeId} : Pure P sl ⟨d, .binOp .or t x y t', ty, ps, af, gd⟩ (.int k (bits .or k a b)) := fun ρ hρ w => by
  unfold execOp; simp [hρ _ _ h, hρ _ _ h2, go_sem]
theorem P_mul (h : evl sl x = some (.int k a)) (h2 : evl sl y = some (.int k b)) (c : Int) (hc : k.wrap (a * b) = c) {t' : TypeId} : Pure P sl ⟨d, .binOp .mul t x y t', ty, ps, af, gd⟩ (.int k c) := fun ρ hρ w => by
  subst hc; unfold execOp; simp [hρ _ _ h, hρ _ _ h2, go_sem]
theorem P_shr (h : evl sl x = some (.int k a)) (h2 : evl sl y = some (.int k2 b)) (h0 : 0 ≤ b) (h1 : b ≤ k.bits) {t' : TypeId} : Pure P sl ⟨d, .binOp .shr t x y t', ty, ps, af, gd⟩ (.int k (a / 2 ^ b.toNat)) := fun ρ hρ w => by
  unfold execOp; simp [hρ _ _ h, hρ _ _ h2, eqGuard, binOp, shift_shr k k2 a b h0 h1]
theorem P_shl (h : evl sl x = some (.int k a)) (h2 : evl sl y = some (.int k2 b)) (h0 : 0 ≤ b) (h1 : b ≤ k.bits) {t' : TypeId} : Pure P sl ⟨d, .binOp .shl t x y t', ty, ps, af, gd⟩ (.int k (k.wrap (a * 2 ^ b.toNat))) := fun ρ hρ w => by
  unfold execOp; simp [hρ _ _ h, hρ _ _ h2, eqGuard, binOp, shift_shl k k2 a b h0 h1]

/-! ### Slices of slices -/
theorem P_slice {e : TypeId} {lo hi : Option Operand} {bk off n cap : Nat} {l h' : Nat} {ti : TypeInfo} (h : evl sl x = some (.slice (some ⟨bk, off, none⟩) n cap)) (hu : P.underlying t = some (.slice e)) (hti : P.info? e = some ti)
    (hlo : lo.map (evl sl) = none ∧ l = 0 ∨ ∃ kl, lo.map (evl sl) = some (some (.int kl l))) (hhi : hi.map (evl sl) = none ∧ h' = n ∨ ∃ kh, hi.map (evl sl) = some (some (.int kh h'))) (h1 : l ≤ h') (h2 : h' ≤ cap) :
    Pure P sl ⟨d, .slice t x lo hi none, ty, ps, af, gd⟩ (.slice (some ⟨bk, if cap = l then off else off + l * ti.size, none⟩) (h' - l) (cap - l)) := fun ρ hρ w => by
  have hs : (sizeOf e).run P w = .ok ti.size w := by simp [sizeOf, typeInfo, hti]
  have hsb : ∀ (k : IntKind) (i y : Nat) (c : BoundsCode), i ≤ y → (Instr.sliceBound (.int k i) y c).run P w = .ok i w := fun k i y c hi => by
    simp [Instr.sliceBound, asIntOf, hi]
  have hbs : (Instr.sliceBounds true n cap (lo.map ρ) (hi.map ρ) none).run P w = .ok (l, h', cap) w := by
    rcases hlo with ⟨e1, rfl⟩ | ⟨kl, e1⟩ <;> rcases hhi with ⟨e2, rfl⟩ | ⟨kh, e2⟩
    · cases lo <;> cases hi <;> simp_all [Instr.sliceBounds]
    · cases lo <;> cases hi <;> simp_all [Instr.sliceBounds]
      rw [hρ _ _ e2]; simp [hsb _ _ _ _ h2]
    · cases lo <;> cases hi <;> simp_all [Instr.sliceBounds]
      rw [hρ _ _ e1]; simp [hsb _ _ _ _ h1]
    · cases lo <;> cases hi <;> simp_all [Instr.sliceBounds]
      rw [hρ _ _ e1, hρ _ _ e2]; simp [hsb _ _ _ _ h2, hsb _ _ _ _ h1]
  unfold execOp
  simp only [hρ _ _ h, Sem.run_bind]
  simp only [Instr.sliceAt, Sem.run_bind, run_underlying hu, Result.andThen_ok, Instr.slice, Option.map_none, hbs, hs, Sem.run_pure]
  by_cases hc : cap = l
  · simp [hc]
  · simp [hc, add_none]
end

/-! ### A turn of one's own memory -/
theorem Sat.turn {C : Ctx} {S : St} {h : Hp} {a : Act} {w w' : World} (H : Sat C S h a w) (i : Nat) {r r' : Res} (hr : S.res[i]? = some r) (hs : Same w w') (hk : ∀ k, k < w.heap.size → ¬ r.has k → w'.heap[k]? = w.heap[k]?) (hh : r'.holds w') (hb : ∀ b, r'.has b → r.has b ∨ w.heap.size ≤ b) :
    Sat C { S with res := S.res.set i r' } h a w' := by
  have hm := List.mem_of_getElem? hr
  have hi : i < S.res.length := (List.getElem?_eq_some_iff.1 hr).1
  have hfr := H.fresh _ hm
  have hap : ∀ (j : Nat) (q : Res), S.res[j]? = some q → j ≠ i → ∀ b, r.has b → ¬ q.has b := by
    intro j q hj hne b hb hqb
    have hp := List.pairwise_iff_getElem.1 H.apart
    have hjl : j < S.res.length := (List.getElem?_eq_some_iff.1 hj).1
    have ej : S.res[j] = q := (List.getElem?_eq_some_iff.1 hj).2
    have ei : S.res[i] = r := (List.getElem?_eq_some_iff.1 hr).2
    rcases Nat.lt_or_gt_of_ne hne with h1 | h1
    · exact hp j i hjl hi h1 b (by rw [ej]; exact hqb) (by rw [ei]; exact hb)
    · exact hp i j hi hjl h1 b (by rw [ei]; exact hb) (by rw [ej]; exact hqb)
  have cases' : ∀ q ∈ S.res.set i r', q = r' ∨ ∃ j, j ≠ i ∧ S.res[j]? = some q := fun q hq => by
    obtain ⟨j, hj⟩ := List.getElem?_of_mem hq
    rw [List.getElem?_set] at hj
    split at hj
    · rename_i e; subst e; simp only [hi, if_true, Option.some.injEq] at hj; exact .inl hj.symm
    · rename_i e; exact .inr ⟨j, Ne.symm e, hj⟩
  have hnone : ∀ b, w.heap.size ≤ b → h b = none := fun b hb => by
    cases e : h b with
    | none => rfl
    | some o => have := (Array.getElem?_eq_some_iff.1 (H.sub b o e)).1; omega
  have apn : ∀ (j : Nat) (q : Res), S.res[j]? = some q → j ≠ i → ∀ b, r'.has b → ¬ q.has b := fun j q hj hne b hb' hqb => by
    rcases hb b hb' with h1 | h1
    · exact hap j q hj hne b h1 hqb
    · have := Res.holds_lt (H.res q (List.mem_of_getElem? hj)) hqb; omega
  refine ⟨H.size, H.slots, H.defers, hs.os.trans H.os, hs.tape.trans H.tape, hs.output.trans H.output, Nat.le_trans H.grow hs.size, fun k hk0 hM => ?_, H.le0, fun k o hk' => ?_, H.new, ?_, ?_, ?_, H.facts⟩
  · refine (hk k (Nat.lt_of_lt_of_le hk0 H.grow) fun hb' => ?_).trans (H.keep k hk0 hM)
    rcases (hfr k hb').2 with h' | h'
    · omega
    · exact hM h'
  · have hlt := (Array.getElem?_eq_some_iff.1 (H.sub k o hk')).1
    refine (hk k hlt fun hb' => ?_).trans (H.sub k o hk')
    rw [(hfr k hb').1] at hk'; cases hk'
  · intro q hq
    rcases cases' q hq with rfl | ⟨j, hne, hj⟩
    · exact hh
    · have hmj := List.mem_of_getElem? hj
      exact Res.holds_keep (H.res q hmj) hs fun k hk' => hk k (Res.holds_lt (H.res q hmj) hk') fun hb' => hap j q hj hne k hb' hk'
  · intro q hq b hb'
    rcases cases' q hq with rfl | ⟨j, hne, hj⟩
    · rcases hb b hb' with h1 | h1
      · exact hfr b h1
      · exact ⟨hnone b h1, .inl (Nat.le_trans H.grow h1)⟩
    · exact H.fresh q (List.mem_of_getElem? hj) b hb'
  · show List.Pairwise _ (S.res.set i r')
    rw [List.pairwise_iff_getElem]
    intro j1 j2 hj1 hj2 hlt b hb1 hb2
    have e1 := List.getElem?_eq_getElem hj1
    have e2 := List.getElem?_eq_getElem hj2
    rw [List.getElem?_set] at e1 e2
    by_cases c1 : i = j1
    · subst c1
      have c2 : i ≠ j2 := by omega
      rw [if_pos rfl, if_pos hi] at e1
      rw [if_neg c2] at e2
      rw [← Option.some.inj e1] at hb1
      exact apn j2 _ e2 (Ne.symm c2) b hb1 hb2
    · rw [if_neg c1] at e1
      by_cases c2 : i = j2
      · subst c2
        rw [if_pos rfl, if_pos hi] at e2
        rw [← Option.some.inj e2] at hb2
        exact apn j1 _ e1 (Ne.symm c1) b hb2 hb1
      · rw [if_neg c2] at e2
        have hp := List.pairwise_iff_getElem.1 H.apart
        have l1 := (List.getElem?_eq_some_iff.1 e1).1
        have l2 := (List.getElem?_eq_some_iff.1 e2).1
        refine hp j1 j2 l1 l2 hlt b ?_ ?_
        · rw [(List.getElem?_eq_some_iff.1 e1).2]; exact hb1
        · rw [(List.getElem?_eq_some_iff.1 e2).2]; exact hb2

section
variable {F : Fence} {P : Program} {C : Ctx} {Φ : Outs} {ops : Array Oper} {l : List Oper} {K : St → Prop} {sl : List (Nat × Value)} {res : List Res} {fc : Hp → Prop} {mn : Mono fc} {df : List Deferred} {t : Tmp} {ty : TypeId} {ps : String} {af : Array Edge}

/-- News: what the slice that is appended reads as. -/
def Src (C : Ctx) (S : St) (ad : Addr) (news : List Value) : Prop := ∀ h a w, Sat C S h a w → ∀ j u, news[j]? = some u → w.cell? (ad.add j) = some u
theorem Src.fact {S : St} {ad : Addr} {news : List Value} (hf : ∀ h, S.facts h → ∀ j u, news[j]? = some u → cellH h (ad.add j) = some u) : Src C S ad news := fun h a w H j u hj => cellH.cell H.sub (hf h H.facts j u hj)
theorem Src.box {S : St} (i : Nat) {b off : Nat} {tb : TypeId} {cs : List Value} {news : List Value} (hr : S.res[i]? = some (.box b tb cs)) (hn : ∀ j u, news[j]? = some u → cs[off + j]? = some u) : Src C S ⟨b, off, none⟩ news := fun h a w H j u hj => by
  rw [add_none, box_cell (show Res.holds w (.box b tb cs) from H.res _ (List.mem_of_getElem? hr))]; exact hn j u hj
theorem Src.box0 {S : St} (i : Nat) {b : Nat} {tb : TypeId} {cs : List Value} (hr : S.res[i]? = some (.box b tb cs)) : Src C S ⟨b, 0, none⟩ cs := Src.box i hr (by simp)

/-- append onto a row of one's own. -/
theorem R_append (hW : Wide F) (i : Nat) {s x : Operand} {ts e : TypeId} {ti : TypeInfo} {z v : Value} {size n m c : Nat} {xs news : List Value} {ad : Addr} (hs : evl sl s = some v) (hx : evl sl x = some (.slice (some ad) m c)) (hr : res[i]? = some (.own v e size n xs))
    (hu : P.underlying ts = some (.slice e)) (hi : P.info? e = some ti) (hz : ti.zero = some z) (hsize : ti.size = size) (hzs : (clist z).length = ti.size) (hsz : decide (0 < ti.size) = true)
    (hsrc : Src C ⟨sl, res, fc, mn, df⟩ ad news) (hl : news.length = m * size) (h1 : news.all (·.oneCell') = true) (hnm : n + m ≤ 100000000) (hby : decide (ti.bytes ≤ 1000000) = true) (ht : decide (t < C.n) = true)
    (k : ∀ v', JL F P C ops ⟨(t, v') :: sl, res.set i (.own v' e size (n + m) (xs ++ news)), fc, mn, df⟩ l K) : JL F P C ops ⟨sl, res, fc, mn, df⟩ (⟨some t, .call { callee := .builtin .append, args := #[s, x], argTypes := #[ts, ts] }, ty, ps, af, none⟩ :: l) K := fun h a w H Q hQ => by
  subst hsize
  have h63 : n + m ≤ maxLen := by have : maxLen = 9223372036854775807 := rfl; omega
  have hby' : (n + m) * ti.bytes ≤ 140737488355328 := Nat.le_trans (Nat.mul_le_mul hnm (of_decide_eq_true hby)) (by decide)
  have hown : w.ownsRow 0 e ti.size v n xs := show Res.holds w (.own v e ti.size n xs) from H.res _ (List.mem_of_getElem? hr)
  obtain ⟨v', w', hrun, h2, h3, _, h5⟩ := run_append_own_at (P := P) w 0 ts ty e ti z ti.size ti.bytes hu hi hz rfl rfl (by rw [cells_clist]; simpa using hzs) (of_decide_eq_true hsz) v n xs hown ad m c news hl (hsrc h a w H) (fun u hu => by simpa using List.all_eq_true.1 h1 u hu) h63 hby' (Nat.zero_le _)
  have hex : (execOp a.eval ⟨some t, .call { callee := .builtin .append, args := #[s, x], argTypes := #[ts, ts] }, ty, ps, af, none⟩).run P w = .ok (.value v') w' := by
    unfold execOp
    simp only [resolve, invoke, builtin, Sem.run_bind, Sem.run_pure, Result.andThen_ok, List.map_toArray, List.map_cons, List.map_nil, H.agr _ _ hs, H.agr _ _ hx, hrun]
  refine wpListIn_plain rfl fun K' hK' => ⟨fun f _ => hW.fn f, ?_⟩
  rw [Oper.semAt_eq _ _ _ (fun c e => by cases e), hex]
  refine hK' _ _ (k v' h _ w' ((H.turn i (r' := .own v' e ti.size (n + m) (xs ++ news)) hr ⟨h3.os, h3.tape, h3.output, h3.size⟩ (fun j hj hno => h3.block j hj fun e => hno e.symm) h2 fun b hb => ?_).put (some t) v' ht) Q hQ)
  rcases h5 with h5 | h5
  · exact .inl (h5.symm.trans hb)
  · have : some w.heap.size = some b := h5.symm.trans hb
    simp only [Option.some.injEq] at this; omega

/-- A resource let go. -/
theorem Sat.drop {S : St} {h : Hp} {a : Act} {w : World} (H : Sat C S h a w) (i : Nat) : Sat C { S with res := S.res.eraseIdx i } h a w := by
  have hs : (S.res.eraseIdx i).Sublist S.res := List.eraseIdx_sublist ..
  exact ⟨H.size, H.slots, H.defers, H.os, H.tape, H.output, H.grow, H.keep, H.le0, H.sub, H.new, fun r hr => H.res r (hs.subset hr), fun r hr => H.fresh r (hs.subset hr), H.apart.sublist hs, H.facts⟩
theorem JL_drop (i : Nat) (h : JL F P C ops ⟨sl, res.eraseIdx i, fc, mn, df⟩ l K) : JL F P C ops ⟨sl, res, fc, mn, df⟩ l K := fun hp a w H Q hQ => h hp a w (H.drop i) Q hQ
theorem J_drop {c : Code} (i : Nat) (h : J F P C ⟨sl, res.eraseIdx i, fc, mn, df⟩ c Φ) : J F P C ⟨sl, res, fc, mn, df⟩ c Φ := fun hp a w H => h hp a w (H.drop i)
theorem Le.drop {S T : St} (i : Nat) (h : Le C { S with res := S.res.eraseIdx i } T) : Le C S T := fun hp a w H => h hp a w (H.drop i)

/-- nil: an own row of no elements. -/
theorem J_ownnil {c : Code} (e : TypeId) (size : Nat) (h : J F P C ⟨sl, .own (.slice none 0 0) e size 0 [] :: res, fc, mn, df⟩ c Φ) : J F P C ⟨sl, res, fc, mn, df⟩ c Φ := fun hp a w H => by
  refine h hp a w ⟨H.size, H.slots, H.defers, H.os, H.tape, H.output, H.grow, H.keep, H.le0, H.sub, H.new, fun r hr => ?_, fun r hr b hb => ?_, List.pairwise_cons.2 ⟨fun r hr b hb => ?_, H.apart⟩, H.facts⟩
  · rcases List.mem_cons.1 hr with rfl | hr
    · exact World.ownsRow_nil w 0 e size
    · exact H.res r hr
  · rcases List.mem_cons.1 hr with rfl | hr
    · cases hb
    · exact H.fresh r hr b hb
  · cases hb
theorem JL_ownnil (e : TypeId) (size : Nat) (h : JL F P C ops ⟨sl, .own (.slice none 0 0) e size 0 [] :: res, fc, mn, df⟩ l K) : JL F P C ops ⟨sl, res, fc, mn, df⟩ l K := fun hp a w H Q hQ => by
  refine h hp a w ⟨H.size, H.slots, H.defers, H.os, H.tape, H.output, H.grow, H.keep, H.le0, H.sub, H.new, fun r hr => ?_, fun r hr b hb => ?_, List.pairwise_cons.2 ⟨fun r hr b hb => ?_, H.apart⟩, H.facts⟩ Q hQ
  · rcases List.mem_cons.1 hr with rfl | hr
    · exact World.ownsRow_nil w 0 e size
    · exact H.res r hr
  · rcases List.mem_cons.1 hr with rfl | hr
    · cases hb
    · exact H.fresh r hr b hb
  · cases hb

/-- What an own row's value is. -/
theorem JL_ownform (i : Nat) {v : Value} {e : TypeId} {size n : Nat} {xs : List Value} (hr : res[i]? = some (.own v e size n xs)) (h1 : v = .slice none 0 0 → n = 0 → xs = [] → JL F P C ops ⟨sl, res, fc, mn, df⟩ l K)
    (h2 : ∀ g cap, v = .slice (some ⟨g, 0, none⟩) n cap → n ≤ cap → cap ≤ maxLen → xs.length = n * size → JL F P C ops ⟨sl, res, fc, mn, df⟩ l K) : JL F P C ops ⟨sl, res, fc, mn, df⟩ l K := fun h a w H Q hQ => by
  obtain ⟨hl, hc⟩ : w.ownsRow 0 e size v n xs := show Res.holds w (.own v e size n xs) from H.res _ (List.mem_of_getElem? hr)
  rcases hc with ⟨rfl, rfl⟩ | ⟨g, cap, cur, rfl, _, hg, hn, hc, _⟩
  · exact h1 rfl rfl (List.eq_nil_of_length_eq_zero (by simpa using hl)) h a w H Q hQ
  · exact h2 g cap rfl hn hc hl h a w H Q hQ
theorem JL_own1 (i : Nat) {v : Value} {e : TypeId} {size n : Nat} {xs : List Value} (hr : res[i]? = some (.own v e size n xs)) (k : v.cells = #[v] → v.oneCell' = true → JL F P C ops ⟨sl, res, fc, mn, df⟩ l K) : JL F P C ops ⟨sl, res, fc, mn, df⟩ l K :=
  JL_ownform i hr (fun e1 _ _ => k (by subst e1; rfl) (by subst e1; rfl)) fun _ _ e1 _ _ _ => k (by subst e1; rfl) (by subst e1; rfl)
theorem J_ownform {c : Code} (i : Nat) {v : Value} {e : TypeId} {size n : Nat} {xs : List Value} (hr : res[i]? = some (.own v e size n xs)) (h1 : v = .slice none 0 0 → n = 0 → xs = [] → J F P C ⟨sl, res, fc, mn, df⟩ c Φ)
    (h2 : ∀ g cap, v = .slice (some ⟨g, 0, none⟩) n cap → n ≤ cap → cap ≤ maxLen → xs.length = n * size → J F P C ⟨sl, res, fc, mn, df⟩ c Φ) : J F P C ⟨sl, res, fc, mn, df⟩ c Φ := fun h a w H => by
  obtain ⟨hl, hc⟩ : w.ownsRow 0 e size v n xs := show Res.holds w (.own v e size n xs) from H.res _ (List.mem_of_getElem? hr)
  rcases hc with ⟨rfl, rfl⟩ | ⟨g, cap, cur, rfl, _, hg, hn, hc, _⟩
  · exact h1 rfl rfl (List.eq_nil_of_length_eq_zero (by simpa using hl)) h a w H
  · exact h2 g cap rfl hn hc hl h a w H

theorem run_bslice {ts e : TypeId} {n : Nat} {parts : Array (Nat × Operand)} {te : TypeInfo} {zv : Value} {ivs : List (Nat × Value)} {cs : List Value} (hu : P.underlying ts = some (.slice e)) (he : P.info? e = some te) (hz : te.zero = some zv)
    (hp : parts.toList.map (fun p => (p.1, evl sl p.2)) = ivs.map (fun p => (p.1, some p.2))) (hn : decide (n * te.size ≤ 16777216 ∧ n * te.size ≠ 0) = true) (hf : lfill (fun i => some (i * te.size, te.size)) ((List.range (n * te.size)).map fun i => (clist zv).getD (i % (clist zv).length) default) ivs = some cs)
    {d : Option Tmp} {gd : Option (Nat × Bool)} (ρ : Operand → Value) (hρ : Agr sl ρ) (w : World) : (execOp ρ ⟨d, .buildSlice ts n parts, ty, ps, af, gd⟩).run P w = .ok (.value (.slice (some ⟨w.heap.size, 0, none⟩) n n)) (w.alloc (.cells cs.toArray e)) := by
  have e1 := parts_agr hρ _ _ hp
  have hpe : (parts.map fun (i, x) => (i, ρ x)).toList = ivs := by rw [Array.toList_map]; exact e1
  obtain ⟨hn1, hn2⟩ := of_decide_eq_true hn
  have hfl := fill_lfill _ _ _ _ hf
  have hzz : (zeroValue e).run P w = .ok zv w := by simp [zeroValue, typeInfo, he, hz]
  have hcl : ((Array.range (n * te.size)).map fun i => (zv.cells)[i % zv.cells.size]!) = ((List.range (n * te.size)).map fun i => (clist zv).getD (i % (clist zv).length) default).toArray := by
    rw [cells_clist]
    apply Array.ext'
    simp [List.getD_eq_getElem?_getD]
  have hs : (sizeOf e).run P w = .ok te.size w := by simp [sizeOf, typeInfo, he]
  unfold execOp
  simp only [Instr.buildSlice, Sem.run_bind, run_underlying hu, Result.andThen_ok, hs, if_neg (show ¬ n * te.size > 2 ^ 24 by omega), Sem.run_pure, if_neg hn2, hzz, hpe, hcl, hfl]
  simp [newRow, go_sem]
/-- A slice literal. -/
theorem R_bslice (hW : Wide F) {ts e : TypeId} {n : Nat} {parts : Array (Nat × Operand)} {te : TypeInfo} {zv : Value} {ivs : List (Nat × Value)} {cs : List Value} (hu : P.underlying ts = some (.slice e)) (he : P.info? e = some te) (hz : te.zero = some zv)
    (hp : parts.toList.map (fun p => (p.1, evl sl p.2)) = ivs.map (fun p => (p.1, some p.2))) (hn : decide (n * te.size ≤ 16777216 ∧ n * te.size ≠ 0) = true) (hf : lfill (fun i => some (i * te.size, te.size)) ((List.range (n * te.size)).map fun i => (clist zv).getD (i % (clist zv).length) default) ivs = some cs) (ht : decide (t < C.n) = true)
    (k : ∀ b, JL F P C ops ⟨(t, .slice (some ⟨b, 0, none⟩) n n) :: sl, .box b e cs :: res, fc, mn, df⟩ l K) : JL F P C ops ⟨sl, res, fc, mn, df⟩ (⟨some t, .buildSlice ts n parts, ty, ps, af, none⟩ :: l) K := fun h a w H Q hQ => by
  refine wpListIn_plain rfl fun K' hK' => ⟨fun f _ => hW.fn f, ?_⟩
  rw [Oper.semAt_eq _ _ _ (fun c e => by cases e), run_bslice hu he hz hp hn hf _ H.agr w]
  exact hK' _ _ (k w.heap.size h _ _ ((H.newbox e cs).put (some t) _ ht) Q hQ)
/-- .. in a region that draws. -/
theorem G_bslice {S0 : St} {Φs : Fcts} {tail : List Oper} {k0 : Nat} {gl : List GF} {ts e : TypeId} {n : Nat} {parts : Array (Nat × Operand)} {te : TypeInfo} {zv : Value} {ivs : List (Nat × Value)} {cs : List Value} (hu : P.underlying ts = some (.slice e)) (he : P.info? e = some te) (hz : te.zero = some zv)
    (hp : parts.toList.map (fun p => (p.1, evl sl p.2)) = ivs.map (fun p => (p.1, some p.2))) (hn : decide (n * te.size ≤ 16777216 ∧ n * te.size ≠ 0) = true) (hf : lfill (fun i => some (i * te.size, te.size)) ((List.range (n * te.size)).map fun i => (clist zv).getD (i % (clist zv).length) default) ivs = some cs)
    (hΨ : fnd Φs k0 = some (fun _ v h => ∃ b, v = .slice (some ⟨b, 0, none⟩) n n ∧ h b = some (.cells cs.toArray e (0, 0)))) (ht : decide (t < C.n) = true)
    (k : ∀ b, JG F P C ops S0 Φs tail K (k0 + 1) l ((t, .slice (some ⟨b, 0, none⟩) n n) :: sl) (⟨k0, fun h => h b = some (.cells cs.toArray e (0, 0)), inferInstance⟩ :: gl)) : JG F P C ops S0 Φs tail K k0 (⟨some t, .buildSlice ts n parts, ty, ps, af, none⟩ :: l) sl gl :=
  G_new (fun b => .slice (some ⟨b, 0, none⟩) n n) (fun ρ hρ w => run_bslice hu he hz hp hn hf ρ hρ w) hΨ ht k
theorem G_box {S0 : St} {Φs : Fcts} {tail : List Oper} {k0 : Nat} {gl : List GF} {e : TypeId} {x : Operand} {v : Value} {cs : List Value} (hx : evl sl x = some v) (hv : v.cells = cs.toArray)
    (hΨ : fnd Φs k0 = some (fun _ v h => ∃ b, v = .pointer (some ⟨b, 0, none⟩) ∧ h b = some (.cells cs.toArray e (0, 0)))) (ht : decide (t < C.n) = true)
    (k : ∀ b, JG F P C ops S0 Φs tail K (k0 + 1) l ((t, .pointer (some ⟨b, 0, none⟩)) :: sl) (⟨k0, fun h => h b = some (.cells cs.toArray e (0, 0)), inferInstance⟩ :: gl)) : JG F P C ops S0 Φs tail K k0 (⟨some t, .box e x, ty, ps, af, none⟩ :: l) sl gl :=
  G_new (fun b => .pointer (some ⟨b, 0, none⟩)) (fun ρ hρ w => by
    unfold execOp
    simp [Instr.box, hρ _ _ hx, run_newVar' hv]) hΨ ht k

/-- The length of an own row. -/
theorem R_leno (hW : Wide F) (i : Nat) {x : Operand} {ts e : TypeId} {e' : TypeId} {v : Value} {size n : Nat} {xs : List Value} (hx : evl sl x = some v) (hr : res[i]? = some (.own v e size n xs)) (hu : P.underlying ts = some (.slice e')) (ht : decide (t < C.n) = true)
    (k : JL F P C ops ⟨(t, .int .i64 n) :: sl, res, fc, mn, df⟩ l K) : JL F P C ops ⟨sl, res, fc, mn, df⟩ (⟨some t, .call { callee := .builtin .len, args := #[x], argTypes := #[ts] }, ty, ps, af, none⟩ :: l) K := by
  refine JL_ownform i hr (fun e1 e2 e3 => ?_) fun g cap e1 _ _ _ => ?_
  · subst e1 e2
    exact R_p hW (P_len hx rfl hu) rfl ht k
  · subst e1
    exact R_p hW (P_len hx rfl hu) rfl ht k
end
end Go.Hl
