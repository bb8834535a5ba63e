/- What a range over a tree tells; rules for lengths in regions that draw. -/
import Derived.Test.YtgheodbcgddjlaaW8
set_option linter.unusedVariables false
set_option linter.unusedSimpArgs false
namespace Go.Ix
open Go.Hl
def T.key : T → List UInt8
  | .nil => []
  | .node _ _ k _ _ _ _ => k
def stopB (to : List UInt8) (x : T) : Bool := decide ((0 : Int) < to.length) && decide (0 ≤ cmpB x.key to)
def rangeT (lo to : List UInt8) (t : T) : List T := (fromT lo t).takeWhile fun x => !stopB to x
theorem fromT_mem (lo : List UInt8) {h : Hp} : ∀ {t : T} {x : T}, IsT h t → x ∈ fromT lo t → IsT h x
  | .nil, x, _, hx => by simp [fromT] at hx
  | .node a kv k l r d m, x, ht, hx => by
    obtain ⟨h1, h2, h3, h4⟩ := ht
    simp only [fromT, List.mem_append] at hx
    rcases hx with hx | hx
    · split at hx
      · rcases List.mem_append.1 hx with hx | hx
        · exact fromT_mem lo h3 hx
        · rw [List.mem_singleton] at hx; subst hx; exact ⟨h1, h2, h3, h4⟩
      · simp at hx
    · exact fromT_mem lo h4 hx
theorem fromT_node (lo : List UInt8) : ∀ {t : T} {x : T}, x ∈ fromT lo t → ∃ a kv k l r d m, x = .node a kv k l r d m
  | .nil, x, hx => by simp [fromT] at hx
  | .node a kv k l r d m, x, hx => by
    simp only [fromT, List.mem_append] at hx
    rcases hx with hx | hx
    · split at hx
      · rcases List.mem_append.1 hx with hx | hx
        · exact fromT_node lo hx
        · rw [List.mem_singleton] at hx; exact ⟨a, kv, k, l, r, d, m, hx⟩
      · simp at hx
    · exact fromT_node lo hx
theorem fromT_length (lo : List UInt8) : ∀ t : T, (fromT lo t).length ≤ t.sh.cnt
  | .nil => Nat.le_refl _
  | .node a kv k l r d m => by
    have h1 := fromT_length lo l
    have h2 := fromT_length lo r
    simp only [fromT, T.sh, S.cnt]
    split <;> simp <;> omega
theorem takeWhile_all {α : Type} {p : α → Bool} : ∀ {l : List α}, (∀ x ∈ l, p x = true) → l.takeWhile p = l
  | [], _ => rfl
  | x :: l, h => by rw [List.takeWhile_cons, h x (List.mem_cons_self ..)]; simp [takeWhile_all fun y hy => h y (List.mem_cons_of_mem _ hy)]
theorem takeWhile_stop {α : Type} {p : α → Bool} {x : α} {suf : List α} : ∀ {l : List α}, (∀ x ∈ l, p x = true) → p x = false → (l ++ x :: suf).takeWhile p = l
  | [], _, hx => by simp [List.takeWhile_cons, hx]
  | y :: l, h, hx => by rw [List.cons_append, List.takeWhile_cons, h y (List.mem_cons_self ..)]; simp [takeWhile_stop (fun z hz => h z (List.mem_cons_of_mem _ hz)) hx]

/-- How many bytes are left without the trailing 255. -/
def nB (l : List UInt8) : Nat → Nat
  | 0 => 0
  | n + 1 => if l[n]? = some 255 then nB l n else n + 1
def endL (l : List UInt8) : List UInt8 := (l.take (nB l l.length)).set (nB l l.length - 1) (kb (((l.getD (nB l l.length - 1) 0).toNat : Int) + 1))
/-- Slices that read as keys. -/
def KVs (h : Hp) : List Value → List (List UInt8) → Prop
  | [], [] => True
  | v :: vs, k :: ks => Bs h v k ∧ KVs h vs ks
  | _, _ => False
theorem KVs.le {h h' : Hp} (hle : Hle h h') : ∀ {vs : List Value} {ks : List (List UInt8)}, KVs h vs ks → KVs h' vs ks
  | [], [], _ => trivial
  | v :: vs, k :: ks, ⟨h1, h2⟩ => ⟨Mono.le (F := fun h => Bs h v k) hle h1, KVs.le hle h2⟩
  | [], _ :: _, hx => hx.elim
  | _ :: _, [], hx => hx.elim
instance {vs : List Value} {ks : List (List UInt8)} : Mono (fun h => KVs h vs ks) := ⟨fun k x => KVs.le k x⟩
theorem KVs.snoc {h : Hp} {v : Value} {k : List UInt8} (hv : Bs h v k) : ∀ {vs : List Value} {ks : List (List UInt8)}, KVs h vs ks → KVs h (vs ++ [v]) (ks ++ [k])
  | [], [], _ => ⟨hv, trivial⟩
  | u :: vs, q :: ks, ⟨h1, h2⟩ => ⟨h1, KVs.snoc hv h2⟩
  | [], _ :: _, hx => hx.elim
  | _ :: _, [], hx => hx.elim
theorem KVs.length {h : Hp} : ∀ {vs : List Value} {ks : List (List UInt8)}, KVs h vs ks → vs.length = ks.length
  | [], [], _ => rfl
  | _ :: vs, _ :: ks, ⟨_, h2⟩ => by simp [KVs.length h2]
  | [], _ :: _, hx => hx.elim
  | _ :: _, [], hx => hx.elim
theorem KVs.get {h : Hp} : ∀ {vs : List Value} {ks : List (List UInt8)}, KVs h vs ks → ∀ {i : Nat} {v : Value} {k : List UInt8}, vs[i]? = some v → ks[i]? = some k → Bs h v k
  | [], [], _, i, v, k, hv, _ => by simp at hv
  | u :: vs, q :: ks, ⟨h1, h2⟩, 0, v, k, hv, hk => by simp at hv hk; subst hv hk; exact h1
  | u :: vs, q :: ks, ⟨h1, h2⟩, i + 1, v, k, hv, hk => KVs.get h2 (by simpa using hv) (by simpa using hk)
  | [], _ :: _, hx, _, _, _, _, _ => hx.elim
  | _ :: _, [], hx, _, _, _, _, _ => hx.elim
def pairC (v : Value) : List Value := [v, .slice none 0 0]
end Go.Ix
namespace Go.Hl
open Go.RowKit Go.Grow Go.Ix
section
variable {F : Fence} {P : Program} {C : Ctx} {Φ : Outs} {ops : Array Oper} {S0 : St} {Φs : Fcts} {tail l : List Oper} {K : St → Prop} {k : Nat} {sl : List (Nat × Value)} {gl : List GF} {t : Tmp} {ty : TypeId} {ps : String} {af : Array Edge}
theorem G_leno (i : Nat) {x : Operand} {ts e e' : TypeId} {v : Value} {size n : Nat} {xs : List Value} (hx : evl sl x = some v) (hr : S0.res[i]? = some (.own v e size n xs)) (hu : P.underlying ts = some (.slice e')) (hΨ : fnd Φs k = none) (ht : decide (t < C.n) = true)
    (h : JG F P C ops S0 Φs tail K (k + 1) l ((t, .int .i64 n) :: sl) gl) : JG F P C ops S0 Φs tail K k (⟨some t, .call { callee := .builtin .len, args := #[x], argTypes := #[ts] }, ty, ps, af, none⟩ :: l) sl gl :=
  G_val hΨ ht (fun h a w H => by
    obtain ⟨hl, hc⟩ : w.ownsRow 0 e size v n xs := show Res.holds w (.own v e size n xs) from H.res _ (List.mem_of_getElem? hr)
    rcases hc with ⟨rfl, rfl⟩ | ⟨g, cap, cur, rfl, _⟩
    · exact (P_len hx rfl hu) _ H.agr w
    · exact (P_len hx rfl hu) _ H.agr w) h
theorem G_lenf {x : Operand} {ts e : TypeId} {v : Value} {n : Nat} {xs : List Value} (hx : evl sl x = some v) (hf : ∀ h, S0.facts h → Rd h v n xs) (hu : P.underlying ts = some (.slice e)) (hΨ : fnd Φs k = none) (ht : decide (t < C.n) = true)
    (h : JG F P C ops S0 Φs tail K (k + 1) l ((t, .int .i64 n) :: sl) gl) : JG F P C ops S0 Φs tail K k (⟨some t, .call { callee := .builtin .len, args := #[x], argTypes := #[ts] }, ty, ps, af, none⟩ :: l) sl gl :=
  G_val hΨ ht (fun h a w H => by
    rcases hf h H.facts.1 with ⟨rfl, rfl, _⟩ | ⟨b, off, cap, rfl, _⟩
    · exact (P_len hx rfl hu) _ H.agr w
    · exact (P_len hx rfl hu) _ H.agr w) h
/-- New memory, what is said of it weakened. -/
theorem G_newx {op : Op} (vf : Nat → Value) {cs : List Value} {e : TypeId} {φ : Value → Hp → Prop} (hr : ∀ ρ, Agr sl ρ → ∀ w, (execOp ρ ⟨some t, op, ty, ps, af, none⟩).run P w = .ok (.value (vf w.heap.size)) (w.alloc (.cells cs.toArray e)))
    (hΨ : fnd Φs k = some (fun _ => φ)) (hφ : ∀ h b, S0.facts h → (∀ q ∈ gl, anc ops k q.k = true → q.F h) → h b = some (.cells cs.toArray e (0, 0)) → φ (vf b) h) (hm : ∀ v, Mono (φ v)) (ht : decide (t < C.n) = true)
    (h : ∀ v, JG F P C ops S0 Φs tail K (k + 1) l ((t, v) :: sl) (⟨k, φ v, hm v⟩ :: gl)) : JG F P C ops S0 Φs tail K k (⟨some t, op, ty, ps, af, none⟩ :: l) sl gl := fun hp a0 w0 H a gs hz hd hs hg Q hQ => by
  refine wpG_grow (ψ := fun _ v w' => gpost hp w0.heap.size (φ v) w') (wanted_none rfl) (by simp [gΨ, hΨ]) (fun w hcl => ?_) (fun v w' hcl hψ => h v hp a0 w0 H (a.put (some t) v) ((k, w') :: gs) (by rw [put_size]; exact hz) hd (put_slots hz ht hs) ⟨⟨rfl, hψ⟩, hg⟩ Q hQ)
  show growsUpon P w _ _
  rw [hr _ (agr_of hs) w]
  obtain ⟨h', l', s', n', f'⟩ := Gm.comb (H.sub.ext hcl.1) (fun i => anc ops k i) hg hcl.2
  have hnone : h' w.heap.size = none := by
    cases hh : h' w.heap.size with
    | none => rfl
    | some o => have := s' _ _ hh; simp at this
  have hle := Hle_up (o := .cells cs.toArray e) hnone
  refine ⟨Ext.alloc _ _, upH h' w.heap.size (.cells cs.toArray e), l'.trans hle, fun b o hb => ?_, fun b o hb => ?_, hφ _ _ (S0.mono.le (l'.trans hle) H.facts) (fun q hq hk => q.m.le hle (f' q hq hk)) (by simp [upH])⟩
  · unfold upH at hb
    split at hb
    · rename_i e; subst e; simp only [Option.some.injEq] at hb; subst hb; exact World.alloc_heap_new w _
    · exact (s'.ext (Ext.alloc w _)) b o hb
  · unfold upH at hb
    split at hb
    · rename_i e; subst e; exact .inr hcl.1.size
    · exact n' b o hb
theorem Bs.one2 {h : Hp} {v : Value} {l : List UInt8} (H : Bs h v l) : clist v = [v] ∧ v.oneCell' = true := by
  rcases H with ⟨rfl, _⟩ | ⟨b, off, cap, rfl, _⟩ <;> exact ⟨rfl, rfl⟩
variable {res : List Res} {fc : Hp → Prop} {mn : Mono fc} {df : List Deferred}
/-- A store of one cell into a row of one's own. -/
theorem R_storeo (hW : Wide F) (i : Nat) {x y : Operand} {e te : TypeId} {g off cap n size : Nat} {cs : List Value} {v : Value} {ti : TypeInfo} (hx : evl sl x = some (.pointer (some ⟨g, off, none⟩))) (hy : evl sl y = some v) (hr : res[i]? = some (.own (.slice (some ⟨g, 0, none⟩) n cap) te size n cs)) (hv : v.cells = #[v]) (hti : P.info? e = some ti) (hz : ti.size = 1) (h1 : v.oneCell' = true) (hoff : off < cs.length)
    (k : JL F P C ops ⟨sl, res.set i (.own (.slice (some ⟨g, 0, none⟩) n cap) te size n (cs.set off v)), fc, mn, df⟩ l K) : JL F P C ops ⟨sl, res, fc, mn, df⟩ (⟨none, .store e x y, ty, ps, af, none⟩ :: l) K := fun h a w H Q hQ => by
  have hown : w.ownsRow 0 te size (.slice (some ⟨g, 0, none⟩) n cap) n cs := show Res.holds w (.own _ te size n cs) from H.res _ (List.mem_of_getElem? hr)
  rcases hown.2 with ⟨h', _⟩ | ⟨g', cap', cur, h', hb, hg, hnc, hcm, hcs, htake⟩
  · simp at h'
  · simp only [Value.slice.injEq, Option.some.injEq, Addr.mk.injEq, and_true, true_and] at h'
    obtain ⟨rfl, rfl⟩ := h'
    have hlen : cs.length = n * size := hown.1
    have hsz : n * size ≤ cur.size := by rw [hcs]; exact Nat.mul_le_mul_right _ hnc
    have hcur : cur = cur.toList.toArray := by simp
    have hg' : w.heap[g]? = some (.cells cur.toList.toArray te (0, 0)) := by rw [← hcur]; exact hg
    have hfit : off + [v].length ≤ cur.toList.length := by simp; omega
    have hst := run_storeVar_box (P := P) (t := e) (off := off) (cs := cur.toList) (vs := [v]) (v := v) hg' (by rw [hv]) (by simp [hti, hz]) hfit (by simp [h1])
    have e1 : cur.toList.take off ++ [v] ++ cur.toList.drop (off + [v].length) = cur.toList.set off v := set_mid (by simp; omega)
    rw [e1] at hst
    refine wpListIn_plain rfl fun K' hK' => ⟨fun f _ => hW.fn f, ?_⟩
    rw [Oper.semAt_eq _ _ _ (fun c e => by cases e), run_store_op rfl (H.agr _ _ hx) (H.agr _ _ hy) hst]
    have hnew : (w.setRow g (cur.toList.set off v).toArray).ownsRow 0 te size (.slice (some ⟨g, 0, none⟩) n cap) n (cs.set off v) := by
      refine ⟨by simpa using hlen, .inr ⟨g, cap, _, rfl, Nat.zero_le _, setRow_heap w g cur _ te _ hg, hnc, hcm, by simpa using hcs, ?_⟩⟩
      show ((cur.toList.set off v)).take (n * size) = _
      rw [List.take_set, htake]
    exact hK' _ _ (k h _ _ (H.turn i (w' := w.setRow g (cur.toList.set off v).toArray) (r' := .own (.slice (some ⟨g, 0, none⟩) n cap) te size n (cs.set off v)) hr ⟨rfl, rfl, rfl, by simp [World.setRow]⟩ (fun k _ hno => setRow_other w g k _ (fun e => hno (by subst e; rfl))) hnew (fun b hb => .inl hb)) Q hQ)
end
end Go.Hl
