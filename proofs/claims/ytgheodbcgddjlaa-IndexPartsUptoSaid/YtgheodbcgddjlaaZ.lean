/- Rules for strings and bytes, for make, and the end of a function that held a range over a function. -/
import Derived.Test.YtgheodbcgddjlaaX
set_option linter.unusedVariables false
set_option linter.unusedSimpArgs false
namespace Go.Hl
open Go.RowKit Go.Grow

/-- The cells of bytes. -/
def cb (l : List UInt8) : List Value := l.map fun b => .int .u8 b.toNat
theorem cb_length (l : List UInt8) : (cb l).length = l.length := by simp [cb]
theorem cb_append (l m : List UInt8) : cb (l ++ m) = cb l ++ cb m := by simp [cb]
theorem cb_one (l : List UInt8) : ∀ u ∈ cb l, u.oneCell' = true := by simp [cb, Value.oneCell']
theorem cb_get {l : List UInt8} {j : Nat} {b : UInt8} (h : l[j]? = some b) : (cb l)[j]? = some (.int .u8 b.toNat) := by simp [cb, h]

/-- The string of these bytes. -/
def bs (l : List UInt8) : ByteArray := ⟨l.toArray⟩
theorem bs_data (s : ByteArray) : bs s.data.toList = s := by cases s; simp [bs]
theorem bs_size (l : List UInt8) : (bs l).size = l.length := by simp [bs, ByteArray.size]
theorem bs_toList (l : List UInt8) : (bs l).data.toList = l := by simp [bs]
theorem bs_beq (l m : List UInt8) : (bs l == bs m) = (l == m) := by
  show (l.toArray == m.toArray) = _
  simp
section
variable {P : Program} {sl : List (Nat × Value)} {x y z : Operand} {d : Option Tmp} {ty : TypeId} {ps : String} {af : Array Edge} {gd : Option (Nat × Bool)}
theorem P_lenl {t : TypeId} {ts : Array TypeId} {l : List UInt8} (h : evl sl x = some (.string (bs l))) (hts : ts = #[t]) (hu : P.underlying t = some .string) :
    Pure P sl ⟨d, .call { callee := .builtin .len, args := #[x], argTypes := ts }, ty, ps, af, gd⟩ (.int .i64 l.length) := by
  have := P_lens (d := d) (ty := ty) (ps := ps) (af := af) (gd := gd) h hts hu
  rwa [bs_size] at this
theorem P_eql {t t' : TypeId} {l m : List UInt8} (h : evl sl x = some (.string (bs l))) (h2 : evl sl y = some (.string (bs m))) (hu : P.underlying t = some .string) : Pure P sl ⟨d, .binOp .eql t x y t', ty, ps, af, gd⟩ (.bool (l == m)) := by
  have := P_eqs (d := d) (ty := ty) (ps := ps) (af := af) (gd := gd) (t' := t') h h2 hu
  rwa [bs_beq] at this
end
/-- From a place on the heap reads as the cells xs. -/
def RdC (h : Hp) (b off : Nat) (xs : List Value) : Prop := ∀ j u, xs[j]? = some u → cellH h ⟨b, off + j, none⟩ = some u
instance {b off : Nat} {xs : List Value} : Mono (fun h => RdC h b off xs) := ⟨fun k H j u hj => cellH.le k (H j u hj)⟩
theorem RdC.drop {h : Hp} {b off : Nat} {xs : List Value} (H : RdC h b off xs) (n : Nat) : RdC h b (off + n) (xs.drop n) := fun j u hj => by
  rw [List.getElem?_drop] at hj
  have := H (n + j) u hj
  rwa [Nat.add_assoc]
theorem RdC.take {h : Hp} {b off : Nat} {xs : List Value} (H : RdC h b off xs) (n : Nat) : RdC h b off (xs.take n) := fun j u hj => by
  rw [List.getElem?_take] at hj
  split at hj
  · exact H j u hj
  · cases hj

/-- v is a slice that reads as the cells xs (n elements of them) in memory that stays; not the nil slice alone is without a place. -/
def Rd (h : Hp) (v : Value) (n : Nat) (xs : List Value) : Prop :=
  (v = .slice none 0 0 ∧ n = 0 ∧ xs = []) ∨ ∃ b off cap, v = .slice (some ⟨b, off, none⟩) n cap ∧ n ≤ cap ∧ RdC h b off xs
instance {v : Value} {n : Nat} {xs : List Value} : Mono (fun h => Rd h v n xs) := ⟨fun k x => x.imp id fun ⟨b, off, cap, e, h1, hc⟩ => ⟨b, off, cap, e, h1, Mono.le (F := fun h => RdC h b off xs) k hc⟩⟩
theorem Row.rd {h : Hp} {v : Value} {n : Nat} {xs : List Value} (H : Row h v n xs) : Rd h v n xs := H.imp id fun ⟨b, off, cap, e, h1, _, hc⟩ => ⟨b, off, cap, e, h1, hc⟩

theorem Sat.newfact {C : Ctx} {S : St} {h : Hp} {a : Act} {w w' : World} (H : Sat C S h a w) (hs : Same w w') (hk : ∀ k, k < w.heap.size → w'.heap[k]? = w.heap[k]?) {o : Obj} (hn : w'.heap[w.heap.size]? = some o) (G : Hp → Prop) (hG : Mono G) (hGf : ∀ h', h' w.heap.size = some o → G h') :
    Sat C { S with facts := fun h => S.facts h ∧ G h, mono := by have := S.mono; infer_instance } (upH h w.heap.size o) a w' := by
  have hnone : h w.heap.size = none := by
    cases hh : h w.heap.size with
    | none => rfl
    | some o => have := H.sub _ _ hh; simp at this
  have hle := Hle_up (o := o) hnone
  have hup : upH h w.heap.size o w.heap.size = some o := by simp [upH]
  refine ⟨H.size, H.slots, H.defers, hs.os.trans H.os, hs.tape.trans H.tape, hs.output.trans H.output, Nat.le_trans H.grow hs.size, fun k hk0 hM => (hk k (Nat.lt_of_lt_of_le hk0 H.grow)).trans (H.keep k hk0 hM), H.le0.trans hle, fun b o' hb => ?_, fun b o' hb => ?_, fun r hr => Res.holds_keep (H.res r hr) hs fun b hb => hk b (Res.holds_lt (H.res r hr) hb), fun r hr b hb => ?_, H.apart, ⟨S.mono.le hle H.facts, hGf _ hup⟩⟩
  · unfold upH at hb
    split at hb
    · rename_i e; subst e; simp only [Option.some.injEq] at hb; subst hb; exact hn
    · have := H.sub b o' hb; exact (hk b (Array.getElem?_eq_some_iff.1 this).1).trans this
  · unfold upH at hb
    split at hb
    · rename_i e; subst e; exact .inr (.inl H.grow)
    · exact H.new b o' hb
  · have h1 := H.fresh r hr b hb
    refine ⟨?_, h1.2⟩
    unfold upH
    split
    · rename_i e; subst e; exact absurd (Res.holds_lt (H.res r hr) hb) (Nat.lt_irrefl _)
    · exact h1.1

section
variable {F : Fence} {P : Program} {C : Ctx} {Φ : Outs} {ops : Array Oper} {l : List Oper} {K : St → Prop} {sl : List (Nat × Value)} {res : List Res} {fc : Hp → Prop} {mn : Mono fc} {df : List Deferred} {t : Tmp} {ty : TypeId} {ps : String} {af : Array Edge}

/-- '[]byte(s)'. -/
theorem R_strb (hW : Wide F) {ts td e : TypeId} {ds : TypeDesc} {x : Operand} {lb : List UInt8} (hx : evl sl x = some (.string (bs lb))) (hs : P.underlying ts = some ds) (hd : P.underlying td = some (.slice e)) (he : P.underlying e = some (.int .u8)) (ht : decide (t < C.n) = true)
    (k : ∀ b cap, lb.length ≤ cap → JL F P C ops ⟨(t, .slice (some ⟨b, 0, none⟩) lb.length cap) :: sl, res, fun h => fc h ∧ RdC h b 0 (cb lb), (by infer_instance), df⟩ l K) : JL F P C ops ⟨sl, res, fc, mn, df⟩ (⟨some t, .convert ts td x, ty, ps, af, none⟩ :: l) K := fun h a w H Q hQ => by
  generalize hsd : bs lb = s at hx
  have hd1 : lb = s.data.toList := by rw [← hsd, bs_toList]
  have hd2 : lb.length = s.size := by rw [← hsd, bs_size]
  rw [hd1] at k
  rw [show s.data.toList.length = s.size from Array.length_toList] at k
  have hex : (execOp a.eval ⟨some t, .convert ts td x, ty, ps, af, none⟩).run P w = .ok (.value (.slice (some ⟨w.heap.size, 0, none⟩) s.size (grownCap w s.size 0 e))) (Lib.bytesWorld w e s) := by
    unfold execOp
    simp [H.agr _ _ hx, Lib.run_convert_string_bytes w ts td e s hs hd he]
  refine wpListIn_plain rfl fun K' hK' => ⟨fun f _ => hW.fn f, ?_⟩
  rw [Oper.semAt_eq _ _ _ (fun c e => by cases e), hex]
  refine hK' _ _ (k w.heap.size _ (grownCap_ge w s.size 0 e) _ _ _ ((H.newfact (w' := Lib.bytesWorld w e s) ⟨rfl, rfl, rfl, by rw [Lib.bytesWorld_size]; omega⟩ (fun k hk => Lib.bytesWorld_at_old w e s k hk) (Lib.bytesWorld_at_new w e s) (fun h => RdC h w.heap.size 0 (cb s.data.toList)) inferInstance ?_).put (some t) _ ht) Q hQ)
  intro h' hb j u hj
  have hlt : j < s.data.toList.length := by
    have := (List.getElem?_eq_some_iff.1 hj).1
    simpa [cb] using this
  simp only [cellH, hb, Nat.zero_add, Option.isSome_none, Bool.false_eq_true, if_false, Lib.bytesCells]
  rw [Array.getElem?_append_left (by simpa using hlt)]
  simpa [cb] using hj

/-- 'string(b)' of an own row of bytes. -/
theorem R_ostr (hW : Wide F) (i : Nat) {ts td e : TypeId} {x : Operand} {v : Value} {n : Nat} {xs : List UInt8} (hx : evl sl x = some v) (hr : res[i]? = some (.own v e 1 n (cb xs))) (hs : P.underlying ts = some (.slice e)) (he : P.underlying e = some (.int .u8)) (hd : P.underlying td = some .string) (ht : decide (t < C.n) = true)
    (k : JL F P C ops ⟨(t, .string (bs xs)) :: sl, res, fc, mn, df⟩ l K) : JL F P C ops ⟨sl, res, fc, mn, df⟩ (⟨some t, .convert ts td x, ty, ps, af, none⟩ :: l) K := by
  refine JL_val hW rfl rfl (fun h a w H => ?_) (fun h a w H => H.put (some t) _ ht) k
  have hown : w.ownsRow 0 e 1 v n (cb xs) := show Res.holds w (.own v e 1 n (cb xs)) from H.res _ (List.mem_of_getElem? hr)
  have hn : xs.length = n := by have := hown.1; simpa [cb] using this
  unfold execOp
  simp only [H.agr _ _ hx, Sem.run_bind]
  rcases hown.2 with ⟨rfl, rfl⟩ | ⟨g, cap, cur, rfl, _, hg, _⟩
  · have : xs = [] := List.eq_nil_of_length_eq_zero hn
    subst this
    rw [run_convert_bytes_string w ts td e none 0 0 hs he hd]
    simp [Conv.bytesToString]
    rfl
  · subst hn
    rw [run_convert_bytes_back w ts td e ⟨g, 0, none⟩ cap xs hs he hd (fun j hj => hown.cells (g := g) rfl j _ (cb_get (List.getElem?_eq_getElem hj)))]
    simp [bs]

/-- 'make([]T, n)'. -/
theorem R_make (hW : Wide F) {ts e : TypeId} {xl xc : Operand} {kl kc : IntKind} {n : Nat} {ti : TypeInfo} {z : Value} {cs : List Value} (hl : evl sl xl = some (.int kl n)) (hc : evl sl xc = some (.int kc n)) (hu : P.underlying ts = some (.slice e)) (hi : P.info? e = some ti) (hz : ti.zero = some z)
    (hby : ti.bytes * n ≤ 281474976710656) (h63 : n ≤ maxLen) (hcs : (madeCells z.cells (n * ti.size)).toList = cs) (ht : decide (t < C.n) = true)
    (k : ∀ b, JL F P C ops ⟨(t, .slice (some ⟨b, 0, none⟩) n n) :: sl, .box b e cs :: res, fc, mn, df⟩ l K) : JL F P C ops ⟨sl, res, fc, mn, df⟩ (⟨some t, .makeSlice ts xl xc, ty, ps, af, none⟩ :: l) K := fun h a w H Q hQ => by
  have hex : (execOp a.eval ⟨some t, .makeSlice ts xl xc, ty, ps, af, none⟩).run P w = .ok (.value (.slice (some ⟨w.heap.size, 0, none⟩) n n)) (w.alloc (.cells cs.toArray e)) := by
    have := run_make (P := P) w ts e ti z hu hi hz kl kc (n : Int) (n : Int) (by omega) (by omega) (by rw [← Int.natCast_mul]; omega) (by have : n ≤ 2 ^ 63 - 1 := h63; omega)
    unfold execOp
    simp only [H.agr _ _ hl, H.agr _ _ hc, Sem.run_bind, this]
    subst hcs
    simp
  refine wpListIn_plain rfl fun K' hK' => ⟨fun f _ => hW.fn f, ?_⟩
  rw [Oper.semAt_eq _ _ _ (fun c e => by cases e), hex]
  exact hK' _ _ (k w.heap.size h _ _ ((H.newbox e cs).put (some t) _ ht) Q hQ)

/-- A load of an element (or of a part of one) of an own row. -/
theorem R_loado (hW : Wide F) (i : Nat) {x : Operand} {e te : TypeId} {g off cap n size : Nat} {cs : List Value} {v : Value} (hx : evl sl x = some (.pointer (some ⟨g, off, none⟩))) (hr : res[i]? = some (.own (.slice (some ⟨g, 0, none⟩) n cap) te size n cs)) (d : TypeDesc) (hu : P.underlying e = some d) (hna : aggB d = false) (hv : cs[off]? = some v) (ht : decide (t < C.n) = true)
    (k : JL F P C ops ⟨(t, v) :: sl, res, fc, mn, df⟩ l K) : JL F P C ops ⟨sl, res, fc, mn, df⟩ (⟨some t, .load e x, ty, ps, af, none⟩ :: l) K :=
  JL_val hW rfl rfl (fun h a w H => run_load_op rfl (H.agr _ _ hx) (run_loadVar_one hu hna (by
    have hown : w.ownsRow 0 te size (.slice (some ⟨g, 0, none⟩) n cap) n cs := show Res.holds w (.own _ te size n cs) from H.res _ (List.mem_of_getElem? hr)
    have := hown.cells (g := g) rfl off v hv
    simpa [add_none] using this))) (fun h a w H => H.put (some t) v ht) k

/-- A row of bytes of one's own. -/
def ownb (e : TypeId) (v : Value) (l : List UInt8) : Res := .own v e 1 l.length (cb l)
theorem R_appb (hW : Wide F) (i : Nat) {s x : Operand} {ts e : TypeId} {ti : TypeInfo} {z v : Value} {c : Nat} {xs ys : List UInt8} {ad : Addr} {m : Nat} (hs : evl sl s = some v) (hx : evl sl x = some (.slice (some ad) m c)) (hr : res[i]? = some (ownb e v xs))
    (hu : P.underlying ts = some (.slice e)) (hi : P.info? e = some ti) (hz : ti.zero = some z) (hsize : ti.size = 1) (hbt : ti.bytes = 1) (hzs : (clist z).length = 1)
    (hsrc : Src C ⟨sl, res, fc, mn, df⟩ ad (cb ys)) (hl : ys.length = m) (hb : xs.length + ys.length ≤ 100000000) (ht : decide (t < C.n) = true)
    (k : ∀ v', JL F P C ops ⟨(t, v') :: sl, res.set i (ownb e v' (xs ++ ys)), fc, mn, df⟩ l K) : JL F P C ops ⟨sl, res, fc, mn, df⟩ (⟨some t, .call { callee := .builtin .append, args := #[s, x], argTypes := #[ts, ts] }, ty, ps, af, none⟩ :: l) K := by
  subst hl
  refine R_append hW i hs hx hr hu hi hz hsize (by rw [hzs, hsize]) (by rw [hsize]; rfl) hsrc (by simp [cb]) (by rw [List.all_eq_true]; exact cb_one ys) hb (by rw [hbt]; rfl) ht fun v' => ?_
  · have := k v'
    unfold ownb at this
    rwa [List.length_append, cb_append] at this

/-- A call of yield by an iterator under its contract. -/
theorem R_yieldY {α : Type} (hF : F = Fence.wide ∨ ∃ k, F = Fence.wide.inRound k) {g : Operand} {ly : Nat} {xs : Array Operand} {ts : Array TypeId} {r : Res} {rest : List Res} {encs : α → List Value} {es : List α} {Y Z : List α → Res → Hp → Prop} (mY : ∀ pre r, Mono (Y pre r)) (mZ : ∀ pre r, Mono (Z pre r))
    (hy : ∀ pre x suf r, es = pre ++ x :: suf → YieldCt P ly (encs x).toArray [r] (Y pre r) (fun v R' h => ∃ r', R' = [r'] ∧ ((v = .bool true ∧ Y (pre ++ [x]) r' h) ∨ (v = .bool false ∧ Z (pre ++ [x]) r' h)))) {pre : List α} {x : α} {suf : List α} (he : es = pre ++ x :: suf)
    (hg : evl sl g = some (.func (.yield ly) #[] #[])) (hxs : xs.toList.map (evl sl) = (encs x).map some) (hperm : res.Perm ([r] ++ rest)) (hFc : ∀ h, fc h → Y pre r h) (ht : decide (t < C.n) = true)
    (kt : ∀ r', JL F P C ops ⟨(t, .bool true) :: sl, r' :: rest, fun h => fc h ∧ Y (pre ++ [x]) r' h, (by have := mY (pre ++ [x]) r'; infer_instance), df⟩ l K)
    (kf : ∀ r', JL F P C ops ⟨(t, .bool false) :: sl, r' :: rest, fun h => fc h ∧ Z (pre ++ [x]) r' h, (by have := mZ (pre ++ [x]) r'; infer_instance), df⟩ l K) : JL F P C ops ⟨sl, res, fc, mn, df⟩ (⟨some t, .call { callee := .value g, args := xs, argTypes := ts }, ty, ps, af, none⟩ :: l) K := by
  have hm : ∀ (v : Value) (R' : List Res), Mono (fun h => ∃ r', R' = [r'] ∧ ((v = .bool true ∧ Y (pre ++ [x]) r' h) ∨ (v = .bool false ∧ Z (pre ++ [x]) r' h))) := fun v R' => by
    have a1 := mY (pre ++ [x])
    have a2 := mZ (pre ++ [x])
    infer_instance
  refine R_yield hF hg hxs (hy pre x suf r he) hperm hFc hm ht fun v R' h a w H Q hQ => ?_
  obtain ⟨h1, r', rfl, h2⟩ := H.facts
  rcases h2 with ⟨rfl, h2⟩ | ⟨rfl, h2⟩
  · exact kt r' h a w (H.weaken (fun _ _ x => x) rfl rfl fun _ => ⟨h1, h2⟩) Q hQ
  · exact kf r' h a w (H.weaken (fun _ _ x => x) rfl rfl fun _ => ⟨h1, h2⟩) Q hQ

/-! ### Slices known by what they read as -/
theorem R_lenf (hW : Wide F) {x : Operand} {ts e : TypeId} {v : Value} {n : Nat} {xs : List Value} (hx : evl sl x = some v) (hf : ∀ h, fc h → Rd h v n xs) (hu : P.underlying ts = some (.slice e)) (ht : decide (t < C.n) = true)
    (k : JL F P C ops ⟨(t, .int .i64 n) :: sl, res, fc, mn, df⟩ l K) : JL F P C ops ⟨sl, res, fc, mn, df⟩ (⟨some t, .call { callee := .builtin .len, args := #[x], argTypes := #[ts] }, ty, ps, af, none⟩ :: l) K := fun h a w H Q hQ => by
  rcases hf h H.facts with ⟨rfl, rfl, _⟩ | ⟨b, off, cap, rfl, _⟩
  · exact R_p hW (P_len hx rfl hu) rfl ht k h a w H Q hQ
  · exact R_p hW (P_len hx rfl hu) rfl ht k h a w H Q hQ
theorem R_indexf (hW : Wide F) {x y : Operand} {ts e : TypeId} {v : Value} {n i z : Nat} {ik : IntKind} {xs : List Value} {ti : TypeInfo} (hx : evl sl x = some v) (hy : evl sl y = some (.int ik i)) (hf : ∀ h, fc h → Rd h v n xs) (hi : i < n) (hu : P.underlying ts = some (.slice e)) (hti : P.info? e = some ti) (hz : ti.size = z) (ht : decide (t < C.n) = true)
    (k : ∀ b off, JL F P C ops ⟨(t, .pointer (some ⟨b, off + i * z, none⟩)) :: sl, res, fun h => fc h ∧ RdC h b off xs, (by infer_instance), df⟩ l K) : JL F P C ops ⟨sl, res, fc, mn, df⟩ (⟨some t, .indexAddr ts x y, ty, ps, af, none⟩ :: l) K := fun h a w H Q hQ => by
  rcases hf h H.facts with ⟨rfl, rfl, _⟩ | ⟨b, off, cap, rfl, _, hrd⟩
  · omega
  · exact R_p hW (P_indexAddr hx hy hu hti hz hi) rfl ht (k b off) h a w (H.weaken (fun _ _ x => x) rfl rfl fun hS => ⟨hS, hrd⟩) Q hQ
theorem J_rdform {c : Code} {v : Value} {n : Nat} {xs : List Value} (hf : ∀ h, fc h → Rd h v n xs) (h1 : v = .slice none 0 0 → n = 0 → xs = [] → J F P C ⟨sl, res, fc, mn, df⟩ c Φ)
    (h2 : ∀ b off cap, v = .slice (some ⟨b, off, none⟩) n cap → n ≤ cap → J F P C ⟨sl, res, fun h => fc h ∧ RdC h b off xs, (by infer_instance), df⟩ c Φ) : J F P C ⟨sl, res, fc, mn, df⟩ c Φ := fun h a w H => by
  rcases hf h H.facts with ⟨e1, e2, e3⟩ | ⟨b, off, cap, e1, e2, hrd⟩
  · exact h1 e1 e2 e3 h a w H
  · exact h2 b off cap e1 e2 h a w (H.weaken (fun _ _ x => x) rfl rfl fun hS => ⟨hS, hrd⟩)
theorem JL_rdform {v : Value} {n : Nat} {xs : List Value} (hf : ∀ h, fc h → Rd h v n xs) (h1 : v = .slice none 0 0 → n = 0 → xs = [] → JL F P C ops ⟨sl, res, fc, mn, df⟩ l K)
    (h2 : ∀ b off cap, v = .slice (some ⟨b, off, none⟩) n cap → n ≤ cap → JL F P C ops ⟨sl, res, fun h => fc h ∧ RdC h b off xs, (by infer_instance), df⟩ l K) : JL F P C ops ⟨sl, res, fc, mn, df⟩ l K := fun h a w H Q hQ => by
  rcases hf h H.facts with ⟨e1, e2, e3⟩ | ⟨b, off, cap, e1, e2, hrd⟩
  · exact h1 e1 e2 e3 h a w H Q hQ
  · exact h2 b off cap e1 e2 h a w (H.weaken (fun _ _ x => x) rfl rfl fun hS => ⟨hS, hrd⟩) Q hQ
theorem RdC.of_cells {h : Hp} {b : Nat} {cs : List Value} {e : TypeId} {m : Nat × Nat} (hb : h b = some (.cells cs.toArray e m)) : RdC h b 0 cs := fun j u hj => by simp [cellH, hb, hj]
theorem flat_get {α : Type} (f : α → List Value) {z : Nat} (hz : ∀ x, (f x).length = z) : ∀ {L : List α} {i : Nat} {x : α}, L[i]? = some x → ∀ j u, (f x)[j]? = some u → (L.flatMap f)[i * z + j]? = some u
  | [], i, x, h, _, _, _ => by simp at h
  | y :: L, 0, x, h, j, u, hj => by
    simp only [List.getElem?_cons_zero, Option.some.injEq] at h; subst h
    have := (List.getElem?_eq_some_iff.1 hj).1
    rw [List.flatMap_cons, List.getElem?_append_left (by simpa using this)]; simpa using hj
  | y :: L, i + 1, x, h, j, u, hj => by
    rw [List.flatMap_cons, List.getElem?_append_right (by rw [hz, Nat.succ_mul]; omega), hz]
    have := flat_get f hz (L := L) (i := i) (by simpa using h) j u hj
    rw [← this]; congr 1; rw [Nat.succ_mul]; omega
theorem RdC.elem {α : Type} {h : Hp} {b off : Nat} {f : α → List Value} {L : List α} {z : Nat} (H : RdC h b off (L.flatMap f)) (hz : ∀ x, (f x).length = z) {i : Nat} {x : α} (hi : L[i]? = some x) : ∀ j u, (f x)[j]? = some u → cellH h ((⟨b, off + i * z, none⟩ : Addr).add j) = some u := fun j u hj => by
  rw [add_none, Nat.add_assoc]; exact H _ _ (flat_get f hz hi j u hj)
theorem JL_res (res' : List Res) (e : res = res') (h : JL F P C ops ⟨sl, res', fc, mn, df⟩ l K) : JL F P C ops ⟨sl, res, fc, mn, df⟩ l K := by subst e; exact h
theorem J_res {c : Code} (res' : List Res) (e : res = res') (h : J F P C ⟨sl, res', fc, mn, df⟩ c Φ) : J F P C ⟨sl, res, fc, mn, df⟩ c Φ := by subst e; exact h

/-! ### The end of a function, marks and all -/
def FinM (P : Program) (fn : Func) (φ : Value → List Res → Hp → Prop) : Outs := fun e S => (e = .ret ∨ e = .normal) ∧ ∃ (Ds : List Nat) (res' : List Res), S.defers = Ds.map mark ∧ S.res.Perm (Ds.map (fun D => Res.obj D shut) ++ res') ∧
  ∃ v R' drop, res'.Perm (R' ++ drop) ∧ Reads P ⟨S.slots, res', S.facts, S.mono, []⟩ fn v ∧ ∀ h, S.facts h → φ v R' h

theorem Sat.dropobj {sl : List (Nat × Value)} {res : List Res} {fc : Hp → Prop} {mn : Mono fc} {df df' : List Deferred} {h : Hp} {a : Act} {w : World} {D : Nat} {o : Obj} (o' : Obj) (H : Sat C ⟨sl, .obj D o :: res, fc, mn, df⟩ h a w) : Sat C ⟨sl, res, fc, mn, df'⟩ h ⟨a.tmps, df'⟩ (w.putObj D o') := by
  have hin : Res.obj D o ∈ Res.obj D o :: res := List.mem_cons_self ..
  have hD : w.heap[D]? = some o := H.res _ hin
  have hfr := H.fresh _ hin D rfl
  have hoth : ∀ k, k ≠ D → (w.putObj D o').heap[k]? = w.heap[k]? := fun k hk => World.putObj_heap_other hk
  have hap := H.apart
  rw [List.pairwise_cons] at hap
  refine ⟨H.size, H.slots, rfl, H.os, H.tape, H.output, by simpa using H.grow, fun k hk hM => ?_, H.le0, fun k o2 hk => ?_, H.new, fun r hr => ?_, fun r hr => H.fresh r (List.mem_cons_of_mem _ hr), hap.2, H.facts⟩
  · refine (hoth k ?_).trans (H.keep k hk hM)
    rintro rfl
    rcases hfr.2 with h' | h'
    · omega
    · exact hM h'
  · refine (hoth k ?_).trans (H.sub k o2 hk)
    rintro rfl
    rw [hfr.1] at hk; cases hk
  · refine Res.holds_keep (H.res r (List.mem_cons_of_mem _ hr)) ⟨rfl, rfl, rfl, by simp⟩ fun b hb => hoth b ?_
    rintro rfl
    exact hap.1 r hr _ rfl hb

theorem leaves_marks {fn : Func} {R : Ending → World → Prop} : ∀ (Ds : List Nat) (sl : List (Nat × Value)) (res : List Res) (fc : Hp → Prop) (mn : Mono fc) (h : Hp) (tm : Array Value) (w : World), Sat C ⟨sl, Ds.map (fun D => Res.obj D shut) ++ res, fc, mn, Ds.map mark⟩ h ⟨tm, Ds.map mark⟩ w →
    (∀ w', Sat C ⟨sl, res, fc, mn, []⟩ h ⟨tm, []⟩ w' → ∃ v, (results fn tm).run P w' = .ok v w' ∧ R (.returned v) w') → LeavesInM Fence.wide 0 P fn tm R (Ds.map mark) .returning w
  | [], _, _, _, _, _, _, w, H, hend => hend w H
  | D :: Ds, sl, res, fc, mn, h, tm, w, H, hend => by
    refine ⟨by simp, .inl ⟨D, _, rfl, run_takeDeferred (ds := []) (show w.heap[D]? = some (.deferred (some [])) from H.res (.obj D shut) (by simp)), ?_⟩⟩
    exact leaves_marks Ds sl res fc mn h tm _ (H.dropobj (.deferred none)) hend

theorem ct_of_JM {f : FuncId} {fn : Func} {c : Code} {args : List Value} {R : List Res} {Fc : Hp → Prop} {φ : Value → List Res → Hp → Prop} (hf : P.funcs[f]? = some fn) (hb : fn.body = some c) (hm : Mono Fc) (N : Nat) (hN : fn.ntmps = N) (hn : args.length ≤ N)
    (h : ∀ W0 h0, J Fence.wide P ⟨W0, h0, fun k => ∃ r ∈ R, r.has k, N⟩ ⟨argSlots 0 args, R, Fc, hm, []⟩ c (FinM P fn φ)) : Ct P f args.toArray R Fc φ := fun h0 w hsub hF hR => by
  refine (callsIn_wide (n := 0)).1 (callsIn_of_wp_marks hf hb trivial (wpIn_mono (h w h0 h0 _ w ?_) ?_))
  · refine ⟨by simp [hN]; omega, fun t v hv => ?_, rfl, rfl, rfl, rfl, Nat.le_refl _, fun _ _ _ => rfl, Hle.refl _, hsub, fun b o hb => .inl hb, hR.holds, fun r hr b hb => ⟨hR.out r hr b hb, .inr ⟨r, hr, hb⟩⟩, hR.apart, hF⟩
    obtain ⟨_, h2⟩ := lk_args args 0 t v hv
    simp only [Nat.sub_zero] at h2
    have : t < args.length := (List.getElem?_eq_some_iff.1 h2).1
    rw [List.getElem?_eq_getElem this] at h2
    simp [Array.getElem?_append, this, Option.some.inj h2]
  · rintro e a' w' ⟨S', h', ⟨he, Ds, res', hdf, hperm, v, R', drop, hperm2, hrd, hpost⟩, H⟩
    have hmem : ∀ r, r ∈ S'.res ↔ r ∈ Ds.map (fun D => Res.obj D shut) ++ res' := fun r => hperm.mem_iff
    have H1 : Sat ⟨w, h0, fun k => ∃ r ∈ R, r.has k, N⟩ ⟨S'.slots, Ds.map (fun D => Res.obj D shut) ++ res', S'.facts, S'.mono, Ds.map mark⟩ h' ⟨a'.tmps, Ds.map mark⟩ w' :=
      ⟨H.size, H.slots, rfl, H.os, H.tape, H.output, H.grow, H.keep, H.le0, H.sub, H.new, fun r hr => H.res r ((hmem r).2 hr), fun r hr => H.fresh r ((hmem r).2 hr), pair_perm hperm H.apart, H.facts⟩
    have hd : a'.defers = Ds.map mark := H.defers.trans hdf
    have key : LeavesInM Fence.wide 0 P fn a'.tmps (fun e w'' => ∃ v R' h', e = .returned v ∧ Left R h0 w φ v R' h' w'') a'.defers .returning w' := by
      rw [hd]
      refine leaves_marks Ds _ _ _ _ h' _ _ H1 fun w2 H2 => ?_
      have hres := hrd _ h' _ w2 H2
      have hmem2 : ∀ r, r ∈ res' ↔ r ∈ R' ∨ r ∈ drop := fun r => by rw [hperm2.mem_iff, List.mem_append]
      have hap := pair_perm hperm2 H2.apart
      rw [List.pairwise_append] at hap
      exact ⟨v, hres, v, R', h', rfl, H2.os, H2.tape, H2.output, H2.grow, fun k hk hno => H2.keep k hk (fun ⟨r, hr, hb⟩ => hno r hr hb), H2.le0, H2.sub, H2.new,
        ⟨fun r hr => H2.res r ((hmem2 r).2 (.inl hr)), hap.1, fun r hr b hb => (H2.fresh r ((hmem2 r).2 (.inl hr)) b hb).1⟩, fun r hr b hb => (H2.fresh r ((hmem2 r).2 (.inl hr)) b hb).2, hpost h' H2.facts⟩
    rcases he with rfl | rfl <;> exact key

theorem FinM.nil {fn : Func} {φ : Value → List Res → Hp → Prop} (e : Exit) (he : e = .ret ∨ e = .normal) {v : Value} {R' : List Res} (drop : List Res) (hp : res.Perm (R' ++ drop)) (hr : Reads P ⟨sl, res, fc, mn, []⟩ fn v) (h : ∀ h, fc h → φ v R' h) : FinM P fn φ e ⟨sl, res, fc, mn, []⟩ :=
  ⟨he, [], res, rfl, by simp, v, R', drop, hp, hr, h⟩
theorem FinM.cons {fn : Func} {φ : Value → List Res → Hp → Prop} (e : Exit) (he : e = .ret ∨ e = .normal) (Ds : List Nat) {res' : List Res} {v : Value} {R' : List Res} (drop : List Res) (hd : df = Ds.map mark) (hp0 : res.Perm (Ds.map (fun D => Res.obj D shut) ++ res')) (hp : res'.Perm (R' ++ drop)) (hr : Reads P ⟨sl, res', fc, mn, []⟩ fn v) (h : ∀ h, fc h → φ v R' h) : FinM P fn φ e ⟨sl, res, fc, mn, df⟩ :=
  ⟨he, Ds, res', hd, hp0, v, R', drop, hp, hr, h⟩
end
end Go.Hl
