/- Walks: the statement's function. -/
import Derived.Test.YtgheodbcgddjlaaW22
set_option linter.unusedVariables false
set_option linter.unusedSimpArgs false
namespace Go.Hl
open Go.RowKit Go.Grow Go.Ix
theorem P_rem {P : Program} {sl : List (Nat × Value)} {x y : Operand} {d : Option Tmp} {ty : TypeId} {ps : String} {af : Array Edge} {gd : Option (Nat × Bool)} {t t' : TypeId} {k : IntKind} {a b : Int} (h : evl sl x = some (.int k a)) (h2 : evl sl y = some (.int k b)) (hb : b ≠ 0) : Pure P sl ⟨d, .binOp .rem t x y t', ty, ps, af, gd⟩ (.int k (a.tmod b)) := fun ρ hρ w => by
  unfold execOp; simp [hρ _ _ h, hρ _ _ h2, go_sem, Op.intDiv, hb]
end Go.Hl
namespace Go.Ix
open Go.Hl
theorem great_small {l : List D} (h : ¬ (0 < greatL l)) (hs : ∀ d ∈ l, d.v.s.length ≤ 1048576) : l.length ≤ 200 ∧ ∀ d ∈ l, d.v.s.length ≤ 1000000 := by
  have hb : bulkL l ≤ 4000 := by
    unfold greatL at h
    split at h
    · exact absurd (by omega) h
    · omega
  clear h
  have key : ∀ (l : List D), 20 * (l.length : Int) ≤ bulkL l ∧ ∀ d ∈ l, (d.v.s.length : Int) ≤ bulkL l := by
    intro l
    induction l with
    | nil => exact ⟨by simp [bulkL], fun d hd => by cases hd⟩
    | cons e l ih =>
      refine ⟨by simp only [bulkL, List.length_cons]; have := ih.1; omega, fun d hd => ?_⟩
      simp only [bulkL]
      rcases List.mem_cons.1 hd with rfl | hd
      · have := ih.1; omega
      · have := ih.2 d hd; omega
  have h1 := key l
  exact ⟨by have := h1.1; omega, fun d hd => by have := h1.2 d hd; omega⟩
/-- The trees of an index from nothing. -/
def nilA (l : List D) : Nat → S := addL (fun _ => .nil) l
theorem nilA_fine (l : List D) : Fine (nilA l) := (addL_spec l Fine.nil).1
theorem nilA_key (l : List D) (o : Nat) : ∀ x ∈ (nilA l o).toL, x.length ≤ 14063 := addL_keys (ss := fun _ => .nil) (fun _ _ h => by cases h) Fine.nil l o
theorem nilA_cnt (l : List D) (o : Nat) : (nilA l o).cnt ≤ l.length := by
  have h1 : (nilA l o).cnt ≤ S.cnt .nil + l.length := (addL_wf l (ss := fun _ => .nil) (o := o) trivial).2
  have h0 : S.cnt .nil = 0 := rfl
  omega
/-- Which trees hold a second list, and of a first one those from a place on. -/
def Part (m l : List D) (i : Nat) (ss : Nat → S) : Prop := Fine ss ∧ (∀ o x, x ∈ (ss o).toL ↔ x ∈ (nilA m o).toL ∨ ∃ d ∈ l.drop i, ((1 ≤ o ∧ o < 5) ∧ keyOk o d = true) ∧ x = keyD o d) ∧ (∀ o, (ss o).cnt ≤ m.length + (l.length - i)) ∧ ∀ o, ∀ x ∈ (ss o).toL, x.length ≤ 14063
theorem Part.start (m l : List D) {i : Nat} (hi : l.length ≤ i) : Part m l i (nilA m) := by
  refine ⟨nilA_fine m, fun o x => ?_, fun o => ?_, nilA_key m⟩
  · rw [List.drop_eq_nil_of_le hi]; simp
  · have := nilA_cnt m o; omega
theorem Part.step {m l : List D} {i j : Nat} {ss : Nat → S} (hj : j ≤ i) (hi : i ≤ l.length) (h : Part m l i ss) : Part m l j (addL ss ((l.drop j).take (i - j))) := by
  obtain ⟨h1, h2, h3, h4⟩ := h
  have hs := addL_spec ((l.drop j).take (i - j)) h1
  have e : l.drop j = (l.drop j).take (i - j) ++ l.drop i := by
    have h5 := (List.take_append_drop (i - j) (l.drop j)).symm
    rw [List.drop_drop, show j + (i - j) = i by omega] at h5
    exact h5
  refine ⟨hs.1, fun o x => ?_, fun o => ?_, addL_keys h4 h1 _⟩
  · rw [hs.2, h2]
    have e2 : (∃ d ∈ l.drop j, ((1 ≤ o ∧ o < 5) ∧ keyOk o d = true) ∧ x = keyD o d) ↔ (∃ d ∈ (l.drop j).take (i - j), ((1 ≤ o ∧ o < 5) ∧ keyOk o d = true) ∧ x = keyD o d) ∨ ∃ d ∈ l.drop i, ((1 ≤ o ∧ o < 5) ∧ keyOk o d = true) ∧ x = keyD o d := by
      constructor
      · rintro ⟨d, hd, h⟩
        rw [e] at hd
        rcases List.mem_append.1 hd with hd | hd
        · exact .inl ⟨d, hd, h⟩
        · exact .inr ⟨d, hd, h⟩
      · rintro (⟨d, hd, h⟩ | ⟨d, hd, h⟩)
        · exact ⟨d, by rw [e]; exact List.mem_append_left _ hd, h⟩
        · exact ⟨d, by rw [e]; exact List.mem_append_right _ hd, h⟩
    rw [e2]
    constructor
    · rintro ((h | h) | h)
      · exact .inl h
      · exact .inr (.inr h)
      · exact .inr (.inl h)
    · rintro (h | h | h)
      · exact .inl (.inl h)
      · exact .inr h
      · exact .inl (.inr h)
  · have h5 := (addL_wf ((l.drop j).take (i - j)) (ss := ss) (o := o) (h1 o).1).2
    have h6 := h3 o
    have h7 : ((l.drop j).take (i - j)).length ≤ i - j := List.length_take_le _ _
    omega
/-- In however many, in whatever order: the same keys. -/
theorem Part.all {m l : List D} {ss : Nat → S} (h : Part m l 0 ss) (o : Nat) : (addL (nilA l) m o).toL = (ss o).toL := by
  have h1 := addL_spec m (nilA_fine l)
  refine sorted_ext (h1.1 o).2 (h.1 o).2 fun x => ?_
  rw [h1.2, h.2.1]
  have h2 := (addL_spec l Fine.nil).2 o x
  have h3 := (addL_spec m Fine.nil).2 o x
  have h4 : x ∈ (nilA l o).toL ↔ ∃ d ∈ l, ((1 ≤ o ∧ o < 5) ∧ keyOk o d = true) ∧ x = keyD o d := by rw [nilA, h2]; simp [S.toL]
  have h5 : x ∈ (nilA m o).toL ↔ ∃ d ∈ m, ((1 ≤ o ∧ o < 5) ∧ keyOk o d = true) ∧ x = keyD o d := by rw [nilA, h3]; simp [S.toL]
  rw [h4, h5, List.drop_zero]
  exact or_comm
end Go.Ix
namespace Go.Proofs.Ytgheodbcgddjlaa
open Go.RowKit Go.Grow Go.Hl Go.Ix

theorem chunk_get {l : List D} (n j : Nat) {k : Nat} {u : Value} (h : (((l.drop j).take n).flatMap D.cells)[k]? = some u) : (l.flatMap D.cells)[j * 9 + k]? = some u := by
  have e : l.flatMap D.cells = (l.take j).flatMap D.cells ++ (((l.drop j).take n).flatMap D.cells ++ ((l.drop j).drop n).flatMap D.cells) := by
    rw [← List.flatMap_append, List.take_append_drop, ← List.flatMap_append, List.take_append_drop]
  have hk := (List.getElem?_eq_some_iff.1 h).1
  have hlen := flat_len D.cells D.cells_length (l.take j)
  have hlt := flat_len D.cells D.cells_length ((l.drop j).take n)
  have hj : (l.take j).length = j := by
    rw [List.length_take]
    rw [hlt, List.length_take, List.length_drop] at hk
    omega
  rw [hj] at hlen
  rw [e, List.getElem?_append_right (by omega), hlen, List.getElem?_append_left (by omega), show j * 9 + k - j * 9 = k by omega]
  exact h

set_option maxHeartbeats 4000000 in
set_option maxRecDepth 100000 in
theorem c3 {lv mv : Value} {l m : List D} {cut : Int} (hl : l.length ≤ 1048576) (hls : ∀ d ∈ l, d.v.s.length ≤ 1048576) (hm : m.length ≤ 1048576) (hms : ∀ d ∈ m, d.v.s.length ≤ 1048576) : FnC Try.prog 3 [lv, mv, .int .i64 cut].toArray (fun h => RdD h lv l ∧ RdD h mv m) (fun u _ => u = .bool true) := by
  refine fn_of_J Try.func3 rfl inferInstance 124 Try.ntmps3 (Nat.le_of_ble_eq_true rfl) fun W0 h0 => ?_
  refine J_rs ?_
  refine R_p Wide.wide (P_assign rfl) rfl rfl ?_
  refine JL_nil ?_
  refine J_rs ?_
  refine R_fv Wide.wide Try.call4 rfl c4 (fun h hf => trivial) rfl ?_
  refine R_p Wide.wide (P_assign rfl) rfl rfl ?_
  refine JL_nil ?_
  refine J_seq ?_
  refine J_rs ?_
  refine R_p Wide.wide (P_move rfl) rfl rfl ?_
  refine R_fv Wide.wide Try.call5 rfl (c5 (l := l) hl hls) (fun h hf => hf.1) rfl ?_
  refine R_p Wide.wide (P_gtr rfl rfl) rfl rfl ?_
  refine R_p Wide.wide (P_move rfl) rfl rfl ?_
  refine R_gd Wide.wide rfl rfl rfl (fun hb24 => ?_) (fun hb24 => ?_)
  · refine R_p Wide.wide (P_move rfl) rfl rfl ?_
    refine R_gy rfl rfl ?_
    refine R_fv Wide.wide Try.call5 rfl (c5 (l := m) hm hms) (fun h hf => hf.2) rfl ?_
    refine R_gy rfl rfl ?_
    refine R_p Wide.wide (P_gtr rfl rfl) rfl rfl ?_
    refine R_p Wide.wide (P_pickf rfl rfl) rfl rfl ?_
    refine R_p Wide.wide (P_move rfl) rfl rfl ?_
    refine R_gd Wide.wide rfl rfl rfl (fun hb29 => ?_) (fun hb29 => ?_)
    · refine R_p Wide.wide (P_move rfl) rfl rfl ?_
      refine R_gy rfl rfl ?_
      refine R_p Wide.wide (P_not rfl) rfl rfl ?_
      refine R_p Wide.wide (P_pickf rfl rfl) rfl rfl ?_
      refine JL_nil ?_
      refine J_iff rfl ?_
      refine J_skip ?_
      show J _ _ _ _ _ _
      refine J_rs ?_
      refine R_p Wide.wide (P_assign rfl) rfl rfl ?_
      refine JL_nil ?_
      have hl2 := great_small (of_decide_eq_false hb24) hls
      have hm2 := great_small (of_decide_eq_false hb29) hms
      refine J_rs ?_
      refine R_p Wide.wide (P_move rfl) rfl rfl ?_
      refine R_p Wide.wide (P_move rfl) rfl rfl ?_
      refine R_fn Wide.wide Try.call6 rfl (c6 (ts := (fun _ => .nil)) (l := l) (fun _ => trivial) (fun _ => Nat.zero_le _) (by omega) hl2.2) (fun h hf => ⟨.inl ⟨rfl, fun _ => rfl⟩, hf.1⟩) (fun _ => inferInstance) rfl (fun v37 => ?_)
      refine JL_or (G1 := fun _ => l.all okAdd = false ∧ v37 = .tuple #[.pointer none, .int .i64 110]) (G2 := fun h => l.all okAdd = true ∧ ∃ v ts', v37 = .tuple #[v, .int .i64 0] ∧ Ixp h v ts' ∧ ∀ o, (ts' o).sh = nilA l o) inferInstance inferInstance (fun h hf => hf.2) ?_ ?_
      · refine JL_fact (fun h hf => hf.2.1) fun hno37 => ?_
        refine JL_fact (fun h hf => hf.2.2) fun e37 => ?_
        subst e37
        refine R_p Wide.wide (P_move rfl) rfl rfl ?_
        refine R_p Wide.wide (P_extract rfl rfl) rfl rfl ?_
        refine R_p Wide.wide (P_extract rfl rfl) rfl rfl ?_
        refine R_p Wide.wide (P_assign rfl) rfl rfl ?_
        refine R_p Wide.wide (P_assign rfl) rfl rfl ?_
        refine JL_nil ?_
        refine J_seq ?_
        refine J_rs ?_
        refine R_p Wide.wide (P_move rfl) rfl rfl ?_
        refine R_p Wide.wide (P_nei rfl rfl) rfl rfl ?_
        refine JL_nil ?_
        refine J_ift rfl ?_
        refine J_rs ?_
        refine R_p Wide.wide (P_move rfl) rfl rfl ?_
        refine R_p Wide.wide (P_assign rfl) rfl rfl ?_
        refine JL_nil ?_
        refine J_ret ?_
        refine Fin.ret _ (.inl rfl) rfl (Reads.one rfl (RV.tmp rfl)) fun _ _ => rfl
      · refine JL_fact (fun h hf => hf.2.1) fun hok37 => ?_
        refine JL_ex (fun (q : Value × (Nat → T)) h => v37 = .tuple #[q.1, .int .i64 0] ∧ Ixp h q.1 q.2 ∧ ∀ o, (q.2 o).sh = nilA l o) (fun _ => inferInstance) (fun h hf => let ⟨v, ts', e⟩ := hf.2.2; ⟨(v, ts'), e⟩) ?_
        rintro ⟨w37, ts1⟩
        refine JL_fact (fun h hf => hf.2.1) fun e37 => ?_
        subst e37
        refine JL_fact (fun h hf => hf.2.2.2) fun hsh37' => ?_
        have hsh37 : ∀ o, (ts1 o).sh = nilA l o := hsh37'
        clear hsh37'
        
        refine R_p Wide.wide (P_move rfl) rfl rfl ?_
        refine R_p Wide.wide (P_extract rfl rfl) rfl rfl ?_
        refine R_p Wide.wide (P_extract rfl rfl) rfl rfl ?_
        refine R_p Wide.wide (P_assign rfl) rfl rfl ?_
        refine R_p Wide.wide (P_assign rfl) rfl rfl ?_
        refine JL_nil ?_
        refine J_seq ?_
        refine J_rs ?_
        refine R_p Wide.wide (P_move rfl) rfl rfl ?_
        refine R_p Wide.wide (P_nei rfl rfl) rfl rfl ?_
        refine JL_nil ?_
        refine J_iff rfl ?_
        refine J_skip ?_
        show J _ _ _ _ _ _
        refine J_facts (fun h => ((RdD h lv l ∧ RdD h mv m) ∧ Ixp h w37 ts1)) (fun h hf => ⟨hf.1.1.1, hf.2.2.1⟩) ?_
        refine J_rs ?_
        refine R_p Wide.wide (P_move rfl) rfl rfl ?_
        refine R_fn Wide.wide Try.call7 rfl (c7 (ts := ts1) (by rw [hsh37 1]; have := nilA_cnt l 1; omega) (fromT_key (by rw [hsh37 1]; exact fun x hx => Nat.le_trans (nilA_key l 1 x hx) (by omega)))) (fun h hf => hf.2) (fun _ => inferInstance) rfl (fun v44 => ?_)
        refine R_p Wide.wide (P_assign rfl) rfl rfl ?_
        refine JL_nil ?_
        refine J_facts (fun h => (((RdD h lv l ∧ RdD h mv m) ∧ Ixp h w37 ts1) ∧ RdD h v44 (readAll 1 (nilA l 1).toL))) (fun h hf => ⟨hf.1, by have h1 := hf.2; rw [beginL_S, beginS_nil, hsh37 1] at h1; exact h1⟩) ?_
        refine J_rs ?_
        refine R_p Wide.wide (P_move rfl) rfl rfl ?_
        refine R_p Wide.wide (P_move rfl) rfl rfl ?_
        refine R_fn Wide.wide Try.call6 rfl (c6 (ts := ts1) (l := m) (fun o => by rw [hsh37]; exact (nilA_fine l o).1) (fun o => by rw [hsh37]; have := nilA_cnt l o; omega) (by omega) hm2.2) (fun h hf => ⟨hf.1.2, hf.1.1.2⟩) (fun _ => inferInstance) rfl (fun v48 => ?_)
        refine JL_or (G1 := fun _ => m.all okAdd = false ∧ v48 = .tuple #[.pointer none, .int .i64 110]) (G2 := fun h => m.all okAdd = true ∧ ∃ v ts', v48 = .tuple #[v, .int .i64 0] ∧ Ixp h v ts' ∧ ∀ o, (ts' o).sh = addL (nilA l) m o) inferInstance inferInstance (fun h hf => by have e : (fun o => (ts1 o).sh) = nilA l := funext hsh37; have h1 := hf.2; rw [e] at h1; exact h1) ?_ ?_
        · refine JL_fact (fun h hf => hf.2.1) fun hno48 => ?_
          refine JL_fact (fun h hf => hf.2.2) fun e48 => ?_
          subst e48
          refine R_p Wide.wide (P_move rfl) rfl rfl ?_
          refine R_p Wide.wide (P_extract rfl rfl) rfl rfl ?_
          refine R_p Wide.wide (P_extract rfl rfl) rfl rfl ?_
          refine R_p Wide.wide (P_assign rfl) rfl rfl ?_
          refine R_p Wide.wide (P_assign rfl) rfl rfl ?_
          refine JL_nil ?_
          refine J_facts (fun h => (((RdD h lv l ∧ RdD h mv m) ∧ Ixp h w37 ts1) ∧ RdD h v44 (readAll 1 (nilA l 1).toL))) (fun h hf => hf.1.1) ?_
          refine J_rs ?_
          refine R_p Wide.wide (P_move rfl) rfl rfl ?_
          refine R_p Wide.wide (P_move rfl) rfl rfl ?_
          refine R_fn Wide.wide Try.call6 rfl (c6 (ts := (fun _ => .nil)) (l := m) (fun _ => trivial) (fun _ => Nat.zero_le _) (by omega) hm2.2) (fun h hf => ⟨.inl ⟨rfl, fun _ => rfl⟩, hf.1.1.2⟩) (fun _ => inferInstance) rfl (fun v54 => ?_)
          refine JL_or (G1 := fun _ => m.all okAdd = false ∧ v54 = .tuple #[.pointer none, .int .i64 110]) (G2 := fun h => m.all okAdd = true ∧ ∃ v ts', v54 = .tuple #[v, .int .i64 0] ∧ Ixp h v ts' ∧ ∀ o, (ts' o).sh = nilA m o) inferInstance inferInstance (fun h hf => hf.2) ?_ ?_
          · refine JL_fact (fun h hf => hf.2.1) fun hno54 => ?_
            refine JL_fact (fun h hf => hf.2.2) fun e54 => ?_
            subst e54
            refine R_p Wide.wide (P_move rfl) rfl rfl ?_
            refine R_p Wide.wide (P_extract rfl rfl) rfl rfl ?_
            refine R_p Wide.wide (P_extract rfl rfl) rfl rfl ?_
            refine R_p Wide.wide (P_assign rfl) rfl rfl ?_
            refine R_p Wide.wide (P_assign rfl) rfl rfl ?_
            refine JL_nil ?_
            refine J_seq ?_
            refine J_rs ?_
            refine R_p Wide.wide (P_move rfl) rfl rfl ?_
            refine R_p Wide.wide (P_nei rfl rfl) rfl rfl ?_
            refine R_p Wide.wide (P_move rfl) rfl rfl ?_
            refine R_say (t := 59) (v := .bool true) rfl rfl ?_
            refine R_gn Wide.wide rfl rfl rfl rfl ?_
            refine R_gn Wide.wide rfl rfl rfl rfl ?_
            refine R_p Wide.wide (P_pickt rfl rfl) rfl rfl ?_
            refine JL_nil ?_
            refine J_ift rfl ?_
            refine J_rs ?_
            refine R_p Wide.wide (P_move rfl) rfl rfl ?_
            refine R_p Wide.wide (P_move rfl) rfl rfl ?_
            refine R_say (t := 64) (v := .bool true) rfl rfl ?_
            refine R_gy rfl rfl ?_
            refine R_p Wide.wide (P_move rfl) rfl rfl ?_
            refine R_gy rfl rfl ?_
            refine R_p Wide.wide (P_move rfl) rfl rfl ?_
            refine R_gy rfl rfl ?_
            refine R_p Wide.wide (P_eqi rfl rfl) rfl rfl ?_
            refine R_p Wide.wide (P_pickt rfl rfl) rfl rfl ?_
            refine R_p Wide.wide (P_assign rfl) rfl rfl ?_
            refine JL_nil ?_
            refine J_ret ?_
            refine Fin.ret _ (.inl rfl) rfl (Reads.one rfl (RV.tmp rfl)) fun _ _ => rfl
          · refine JL_fact (fun h hf => hf.2.1) fun hok54 => ?_
            refine JL_ex (fun (q : Value × (Nat → T)) h => v54 = .tuple #[q.1, .int .i64 0] ∧ Ixp h q.1 q.2 ∧ ∀ o, (q.2 o).sh = nilA m o) (fun _ => inferInstance) (fun h hf => let ⟨v, ts', e⟩ := hf.2.2; ⟨(v, ts'), e⟩) ?_
            rintro ⟨w54, ts3⟩
            refine JL_fact (fun h hf => hf.2.1) fun e54 => ?_
            subst e54
            refine JL_fact (fun h hf => hf.2.2.2) fun hsh54' => ?_
            have hsh54 : ∀ o, (ts3 o).sh = nilA m o := hsh54'
            clear hsh54'
            
            exact absurd (hno48.symm.trans hok54) (by decide)
        · refine JL_fact (fun h hf => hf.2.1) fun hok48 => ?_
          refine JL_ex (fun (q : Value × (Nat → T)) h => v48 = .tuple #[q.1, .int .i64 0] ∧ Ixp h q.1 q.2 ∧ ∀ o, (q.2 o).sh = addL (nilA l) m o) (fun _ => inferInstance) (fun h hf => let ⟨v, ts', e⟩ := hf.2.2; ⟨(v, ts'), e⟩) ?_
          rintro ⟨w48, ts2⟩
          refine JL_fact (fun h hf => hf.2.1) fun e48 => ?_
          subst e48
          refine JL_fact (fun h hf => hf.2.2.2) fun hsh48' => ?_
          have hsh48 : ∀ o, (ts2 o).sh = addL (nilA l) m o := hsh48'
          clear hsh48'
          
          refine R_p Wide.wide (P_move rfl) rfl rfl ?_
          refine R_p Wide.wide (P_extract rfl rfl) rfl rfl ?_
          refine R_p Wide.wide (P_extract rfl rfl) rfl rfl ?_
          refine R_p Wide.wide (P_assign rfl) rfl rfl ?_
          refine R_p Wide.wide (P_assign rfl) rfl rfl ?_
          refine JL_nil ?_
          refine J_facts (fun h => (((RdD h lv l ∧ RdD h mv m) ∧ Ixp h w37 ts1) ∧ RdD h v44 (readAll 1 (nilA l 1).toL)) ∧ Ixp h w48 ts2) (fun h hf => ⟨hf.1.1.1, hf.2.2.1⟩) ?_
          refine J_rs ?_
          refine R_p Wide.wide (P_move rfl) rfl rfl ?_
          refine R_p Wide.wide (P_move rfl) rfl rfl ?_
          refine R_fn Wide.wide Try.call6 rfl (c6 (ts := (fun _ => .nil)) (l := m) (fun _ => trivial) (fun _ => Nat.zero_le _) (by omega) hm2.2) (fun h hf => ⟨.inl ⟨rfl, fun _ => rfl⟩, hf.1.1.1.2⟩) (fun _ => inferInstance) rfl (fun v54 => ?_)
          refine JL_or (G1 := fun _ => m.all okAdd = false ∧ v54 = .tuple #[.pointer none, .int .i64 110]) (G2 := fun h => m.all okAdd = true ∧ ∃ v ts', v54 = .tuple #[v, .int .i64 0] ∧ Ixp h v ts' ∧ ∀ o, (ts' o).sh = nilA m o) inferInstance inferInstance (fun h hf => hf.2) ?_ ?_
          · refine JL_fact (fun h hf => hf.2.1) fun hno54 => ?_
            refine JL_fact (fun h hf => hf.2.2) fun e54 => ?_
            subst e54
            exact absurd (hno54.symm.trans hok48) (by decide)
          · refine JL_fact (fun h hf => hf.2.1) fun hok54 => ?_
            refine JL_ex (fun (q : Value × (Nat → T)) h => v54 = .tuple #[q.1, .int .i64 0] ∧ Ixp h q.1 q.2 ∧ ∀ o, (q.2 o).sh = nilA m o) (fun _ => inferInstance) (fun h hf => let ⟨v, ts', e⟩ := hf.2.2; ⟨(v, ts'), e⟩) ?_
            rintro ⟨w54, ts3⟩
            refine JL_fact (fun h hf => hf.2.1) fun e54 => ?_
            subst e54
            refine JL_fact (fun h hf => hf.2.2.2) fun hsh54' => ?_
            have hsh54 : ∀ o, (ts3 o).sh = nilA m o := hsh54'
            clear hsh54'
            
            refine R_p Wide.wide (P_move rfl) rfl rfl ?_
            refine R_p Wide.wide (P_extract rfl rfl) rfl rfl ?_
            refine R_p Wide.wide (P_extract rfl rfl) rfl rfl ?_
            refine R_p Wide.wide (P_assign rfl) rfl rfl ?_
            refine R_p Wide.wide (P_assign rfl) rfl rfl ?_
            refine JL_nil ?_
            refine J_seq ?_
            refine J_rs ?_
            refine R_p Wide.wide (P_move rfl) rfl rfl ?_
            refine R_p Wide.wide (P_nei rfl rfl) rfl rfl ?_
            refine R_p Wide.wide (P_move rfl) rfl rfl ?_
            refine R_say (t := 59) (v := .bool false) rfl rfl ?_
            refine R_gy rfl rfl ?_
            refine R_p Wide.wide (P_move rfl) rfl rfl ?_
            refine R_gy rfl rfl ?_
            refine R_p Wide.wide (P_nei rfl rfl) rfl rfl ?_
            refine R_p Wide.wide (P_pickf rfl rfl) rfl rfl ?_
            refine JL_nil ?_
            refine J_iff rfl ?_
            refine J_skip ?_
            show J _ _ _ _ _ _
            have hr1 : -5 < cut.tmod 5 ∧ cut.tmod 5 < 5 := ⟨by have := Int.lt_tmod_of_pos cut (b := 5) (by omega); omega, Int.tmod_lt_of_pos cut (by omega)⟩
            have hr2 : 0 ≤ (cut.tmod 5 + 5).tmod 5 ∧ (cut.tmod 5 + 5).tmod 5 < 5 := ⟨Int.tmod_nonneg _ (by omega), Int.tmod_lt_of_pos _ (by omega)⟩
            obtain ⟨nn, hnn⟩ : ∃ nn, nn = (cut.tmod 5 + 5).tmod 5 + 1 := ⟨_, rfl⟩
            refine J_rs ?_
            refine R_p Wide.wide (P_move rfl) rfl rfl ?_
            refine R_p Wide.wide (P_rem rfl rfl (by decide)) rfl rfl ?_
            refine R_p Wide.wide (P_add rfl rfl (cut.tmod 5 + 5) (w64 (by omega))) rfl rfl ?_
            refine R_p Wide.wide (P_rem rfl rfl (by decide)) rfl rfl ?_
            refine R_p Wide.wide (P_add rfl rfl nn (by rw [hnn]; exact w64 (by omega))) rfl rfl ?_
            refine R_p Wide.wide (P_assign rfl) rfl rfl ?_
            refine JL_nil ?_
            refine J_seq ?_
            refine J_rs ?_
            refine R_p Wide.wide (P_move rfl) rfl rfl ?_
            refine R_lenf Wide.wide rfl (fun h hf => hf.1.1.1.1.1.1.1) Try.underlying22 rfl ?_
            refine R_p Wide.wide (P_assign rfl) rfl rfl ?_
            refine JL_nil ?_
            refine J_block ?_
            refine J_round (ι := {p : Int × Value × (Nat → T) // p.1 ≤ l.length ∧ -5 ≤ p.1 ∧ Part m l p.1.toNat (fun o => (p.2.2 o).sh)}) (fun p => ⟨[(0, lv), (7, .bool true), (9, w37), (11, v44), (12, w48), (14, p.1.2.1), (16, .int .i64 nn), (17, .int .i64 p.1.1)], [], fun h => (((RdD h lv l ∧ Ixp h w37 ts1) ∧ RdD h v44 (readAll 1 (nilA l 1).toL)) ∧ Ixp h w48 ts2) ∧ Ixp h p.1.2.1 p.1.2.2, inferInstance, []⟩) (fun p => (p.1.1 + 5).toNat) ⟨(l.length, w54, ts3), Int.le_refl _, by show (-5 : Int) ≤ (l.length : Int); omega, by
              have e : (fun o => (ts3 o).sh) = nilA m := funext hsh54
              show Part m l ((l.length : Int)).toNat (fun o => (ts3 o).sh)
              rw [e]; exact Part.start m l (by omega)⟩ (Le.mk ⟨rfl, rfl, rfl, rfl, rfl, rfl, rfl, rfl, trivial⟩ rfl rfl fun _ hf => ⟨⟨⟨⟨hf.1.1.1.1.1.1.1, hf.1.1.1.1.1.2⟩, hf.1.1.1.1.2⟩, hf.1.1.1.2⟩, hf.2.2.1⟩) ?_
            rintro ⟨⟨i, w, tt⟩, hi, hi5, hpart⟩
            dsimp only at hi hi5 hpart ⊢
            refine J_seq ?_
            refine J_rs ?_
            refine R_p Wide.wide (P_move rfl) rfl rfl ?_
            refine R_p Wide.wide (P_gtr rfl rfl) rfl rfl ?_
            refine JL_nil ?_
            refine J_ifs rfl (fun hb77 => ?_) (fun hb77 => ?_)
            · refine J_skip ?_
              show J _ _ _ _ _ _
              refine J_seq ?_
              refine J_block ?_
              have hi0 : 0 < i := of_decide_eq_true hb77
              refine J_rdform (v := lv) (n := l.length) (xs := l.flatMap D.cells) (fun h hf => hf.1.1.1.1) (fun _ h1 _ => by omega) (fun bl ol cl el hcl => ?_)
              subst el
              refine J_rs ?_
              refine R_p Wide.wide (P_move rfl) rfl rfl ?_
              refine R_p Wide.wide (P_move rfl) rfl rfl ?_
              refine R_p Wide.wide (P_move rfl) rfl rfl ?_
              refine R_p Wide.wide (P_move rfl) rfl rfl ?_
              refine R_p Wide.wide (P_sub rfl rfl (i - nn) (w64 (by omega))) rfl rfl ?_
              refine R_p Wide.wide (P_max rfl rfl) rfl rfl ?_
              refine R_say (t := 87) (v := .int .i64 (((max 0 (i - nn)).toNat : Nat) : Int)) rfl (by rw [Int.toNat_of_nonneg (by omega)]) ?_
              refine R_p Wide.wide (P_move rfl) rfl rfl ?_
              refine R_say (t := 88) (v := .int .i64 ((i.toNat : Nat) : Int)) rfl (by rw [Int.toNat_of_nonneg (by omega)]) ?_
              refine R_p Wide.wide (P_slice (l := (max 0 (i - nn)).toNat) (h' := i.toNat) rfl Try.underlying22 Try.type43 (.inr ⟨_, rfl⟩) (.inr ⟨_, rfl⟩) (by omega) (by omega)) rfl rfl ?_
              refine R_fn Wide.wide Try.call6 rfl (c6 (ts := tt) (l := ((l.drop (max 0 (i - nn)).toNat).take (i.toNat - (max 0 (i - nn)).toNat))) (fun o => (hpart.1 o).1) (fun o => by have h1 : (tt o).sh.cnt ≤ m.length + (l.length - i.toNat) := hpart.2.2.1 o; show (tt o).sh.cnt ≤ _; omega) (by have := List.length_take_le (i.toNat - (max 0 (i - nn)).toNat) (l.drop (max 0 (i - nn)).toNat); omega) (fun d hd => hl2.2 d (List.mem_of_mem_drop (List.mem_of_mem_take hd)))) (fun h hf => ⟨hf.1.2, .inr ⟨bl, _, _, by
                have e1 : (if cl = (max 0 (i - nn)).toNat then ol else ol + (max 0 (i - nn)).toNat * Try.t43.size) = ol + (max 0 (i - nn)).toNat * 9 := if_neg (by omega)
                rw [e1, List.length_take, List.length_drop, Nat.min_eq_left (by omega)], by rw [List.length_take, List.length_drop]; omega, fun j u hj => by
                rw [Nat.add_assoc]
                refine hf.2 _ _ ?_
                exact chunk_get (i.toNat - (max 0 (i - nn)).toNat) (max 0 (i - nn)).toNat hj⟩⟩) (fun _ => inferInstance) rfl (fun v90 => ?_)
              have hokc : ((l.drop (max 0 (i - nn)).toNat).take (i.toNat - (max 0 (i - nn)).toNat)).all okAdd = true := by
                rw [List.all_eq_true] at hok37 ⊢
                exact fun d hd => hok37 d (List.mem_of_mem_drop (List.mem_of_mem_take hd))
              refine JL_ex (fun (q : Value × (Nat → T)) h => v90 = .tuple #[q.1, .int .i64 0] ∧ Ixp h q.1 q.2 ∧ ∀ o, (q.2 o).sh = addL (fun o => (tt o).sh) ((l.drop (max 0 (i - nn)).toNat).take (i.toNat - (max 0 (i - nn)).toNat)) o) (fun _ => inferInstance) (fun h hf => by
                rcases hf.2 with ⟨h1, _⟩ | ⟨_, v, ts', h1, h2, h3⟩
                · rw [hokc] at h1; cases h1
                · exact ⟨(v, ts'), h1, h2, h3⟩) ?_
              rintro ⟨w90, t90⟩
              refine JL_fact (fun h hf => hf.2.1) fun e90 => ?_
              subst e90
              refine JL_fact (fun h hf => hf.2.2.2) fun hsh90' => ?_
              have hsh90 : ∀ o, (t90 o).sh = addL (fun o => (tt o).sh) ((l.drop (max 0 (i - nn)).toNat).take (i.toNat - (max 0 (i - nn)).toNat)) o := hsh90'
              clear hsh90'
              refine R_p Wide.wide (P_move rfl) rfl rfl ?_
              refine R_p Wide.wide (P_extract rfl rfl) rfl rfl ?_
              refine R_p Wide.wide (P_extract rfl rfl) rfl rfl ?_
              refine R_p Wide.wide (P_assign rfl) rfl rfl ?_
              refine R_p Wide.wide (P_assign rfl) rfl rfl ?_
              refine JL_nil ?_
              refine J_seq ?_
              refine J_rs ?_
              refine R_p Wide.wide (P_move rfl) rfl rfl ?_
              refine R_p Wide.wide (P_nei rfl rfl) rfl rfl ?_
              refine JL_nil ?_
              refine J_iff rfl ?_
              refine J_skip ?_
              show J _ _ _ _ _ _
              refine J_region ?_
              refine R_p Wide.wide (P_move rfl) rfl rfl ?_
              refine R_p Wide.wide (P_assign rfl) rfl rfl ?_
              refine JL_nil ?_
              refine J_region ?_
              refine R_p Wide.wide (P_move rfl) rfl rfl ?_
              refine R_p Wide.wide (P_move rfl) rfl rfl ?_
              refine R_p Wide.wide (P_sub rfl rfl (i - nn) (w64 (by omega))) rfl rfl ?_
              refine R_p Wide.wide (P_assign rfl) rfl rfl ?_
              refine JL_nil ?_
              exact ⟨⟨(i - nn, w90, t90), by show i - nn ≤ (l.length : Int); omega, by show -5 ≤ i - nn; omega, by
                show Part m l (i - nn).toNat (fun o => (t90 o).sh)
                have e : (fun o => (t90 o).sh) = addL (fun o => (tt o).sh) ((l.drop (max 0 (i - nn)).toNat).take (i.toNat - (max 0 (i - nn)).toNat)) := funext hsh90
                have e2 : (i - nn).toNat = (max 0 (i - nn)).toNat := by omega
                rw [e, e2]; exact hpart.step (by omega) (by omega)⟩, by show (i - nn + 5).toNat < (i + 5).toNat; omega, Le.mk ⟨rfl, rfl, rfl, rfl, rfl, rfl, rfl, rfl, trivial⟩ rfl rfl fun _ hf => ⟨hf.1.1.1.1, hf.2.2.1⟩⟩
            · refine J_exit ?_
              show J _ _ _ _ _ _
              have hi0 : i ≤ 0 := by have := of_decide_eq_false hb77; omega
              have hp0 : i.toNat = 0 := by omega
              rw [hp0] at hpart
              have hall := hpart.all 1
              have hmn : (ts2 1).sh.mn = (tt 1).sh.mn := by
                rw [hsh48, ((addL_spec m (nilA_fine l)).1 1).1.mn, (hpart.1 1).1.mn, S.cnt_toL, S.cnt_toL, hall]
              have hmn2 : (ts1 1).sh.mn ≤ (ts2 1).sh.mn := by
                rw [hsh48, hsh37, ((addL_spec m (nilA_fine l)).1 1).1.mn, (nilA_fine l 1).1.mn, S.cnt_toL, S.cnt_toL]
                have h1 := sorted_length (nilA_fine l 1).2 (fun x hx => ((addL_spec m (nilA_fine l)).2 1 x).2 (.inl hx))
                omega
              have hYL : (readAll 1 (addL (nilA l) m 1).toL).length ≤ 1048576 := by
                have h0 := readAll_length 1 (addL (nilA l) m 1).toL
                rw [← S.cnt_toL] at h0
                have h1 := (addL_wf m (ss := nilA l) (o := 1) (nilA_fine l 1).1).2
                have h2 := nilA_cnt l 1
                omega
              have hWAS : (readAll 1 (nilA l 1).toL).length ≤ 1048576 := by
                have h0 := readAll_length 1 (nilA l 1).toL
                rw [← S.cnt_toL] at h0
                have h2 := nilA_cnt l 1
                omega
              refine J_rs ?_
              refine R_p Wide.wide (P_move rfl) rfl rfl ?_
              refine R_p Wide.wide (P_move rfl) rfl rfl ?_
              refine R_say (t := 97) (v := .bool true) rfl (rfl) ?_
              refine R_gy rfl rfl ?_
              refine R_p Wide.wide (P_move rfl) rfl rfl ?_
              refine R_gy rfl rfl ?_
              refine R_fn Wide.wide Try.call7 rfl (c7 (ts := ts2) (by rw [hsh48 1]; have h1 := (addL_wf m (ss := nilA l) (o := 1) (nilA_fine l 1).1).2; have h2 := nilA_cnt l 1; omega) (fromT_key (by rw [hsh48 1]; exact fun x hx => Nat.le_trans (addL_keys (nilA_key l) (nilA_fine l) m 1 x hx) (by omega)))) (fun h hf => hf.1.2) (fun _ => inferInstance) rfl (fun v99 => ?_)
              refine JL_ex (fun (_ : Unit) h => RdD h v99 (readAll 1 (addL (nilA l) m 1).toL)) (fun _ => inferInstance) (fun h hf => ⟨(), by have h1 := hf.2; rw [beginL_S, beginS_nil, hsh48 1] at h1; exact h1⟩) ?_
              rintro -
              refine R_gy rfl rfl ?_
              refine R_p Wide.wide (P_move rfl) rfl rfl ?_
              refine R_gy rfl rfl ?_
              refine R_fn Wide.wide Try.call7 rfl (c7 (ts := tt) (by have h1 : (tt 1).sh.cnt ≤ m.length + (l.length - 0) := hpart.2.2.1 1; show (tt 1).sh.cnt ≤ _; omega) (fromT_key (fun x hx => Nat.le_trans (hpart.2.2.2 1 x hx) (by omega)))) (fun h hf => hf.1.1.2) (fun _ => inferInstance) rfl (fun v101 => ?_)
              refine JL_ex (fun (_ : Unit) h => RdD h v101 (readAll 1 (addL (nilA l) m 1).toL)) (fun _ => inferInstance) (fun h hf => ⟨(), by have h1 := hf.2; rw [beginL_S, beginS_nil, ← hall] at h1; exact h1⟩) ?_
              rintro -
              refine R_gy rfl rfl ?_
              refine R_fv Wide.wide Try.call8 rfl (c8 (l := (readAll 1 (addL (nilA l) m 1).toL)) hYL) (fun h hf => ⟨hf.1.1.2, hf.2⟩) rfl ?_
              refine R_p Wide.wide (P_pickt rfl rfl) rfl rfl ?_
              refine R_p Wide.wide (P_move rfl) rfl rfl ?_
              refine R_say (t := 104) (v := .bool true) rfl (rfl) ?_
              refine R_gy rfl rfl ?_
              refine R_p Wide.wide (P_move rfl) rfl rfl ?_
              refine R_gy rfl rfl ?_
              refine R_fn Wide.wide Try.call7 rfl (c7 (ts := ts1) (by rw [hsh37 1]; have := nilA_cnt l 1; omega) (fromT_key (by rw [hsh37 1]; exact fun x hx => Nat.le_trans (nilA_key l 1 x hx) (by omega)))) (fun h hf => hf.1.1.1.1.1.1.1.2) (fun _ => inferInstance) rfl (fun v106 => ?_)
              refine JL_ex (fun (_ : Unit) h => RdD h v106 (readAll 1 (nilA l 1).toL)) (fun _ => inferInstance) (fun h hf => ⟨(), by have h1 := hf.2; rw [beginL_S, beginS_nil, hsh37 1] at h1; exact h1⟩) ?_
              rintro -
              refine R_gy rfl rfl ?_
              refine R_p Wide.wide (P_move rfl) rfl rfl ?_
              refine R_gy rfl rfl ?_
              refine R_fv Wide.wide Try.call8 rfl (c8 (l := (readAll 1 (nilA l 1).toL)) hWAS) (fun h hf => ⟨hf.2, hf.1.1.1.1.1.1.1.1.2⟩) rfl ?_
              refine R_p Wide.wide (P_pickt rfl rfl) rfl rfl ?_
              refine R_p Wide.wide (P_move rfl) rfl rfl ?_
              refine R_say (t := 110) (v := .bool true) rfl (rfl) ?_
              refine R_gy rfl rfl ?_
              refine R_p Wide.wide (P_move rfl) rfl rfl ?_
              refine R_gy rfl rfl ?_
              refine R_fv Wide.wide Try.call9 rfl (c9 (ts := ts2)) (fun h hf => hf.1.1.1.1.1.1.1.2) rfl ?_
              refine R_gy rfl rfl ?_
              refine R_p Wide.wide (P_move rfl) rfl rfl ?_
              refine R_gy rfl rfl ?_
              refine R_fv Wide.wide Try.call9 rfl (c9 (ts := tt)) (fun h hf => hf.1.1.1.1.1.1.2) rfl ?_
              refine R_gy rfl rfl ?_
              refine R_p Wide.wide (P_eqi rfl rfl) rfl rfl ?_
              refine R_p Wide.wide (P_pickt rfl rfl) rfl rfl ?_
              refine R_p Wide.wide (P_move rfl) rfl rfl ?_
              refine R_say (t := 117) (v := .bool true) rfl (congrArg Value.bool (decide_eq_true hmn)) ?_
              refine R_gy rfl rfl ?_
              refine R_p Wide.wide (P_move rfl) rfl rfl ?_
              refine R_gy rfl rfl ?_
              refine R_fv Wide.wide Try.call9 rfl (c9 (ts := ts2)) (fun h hf => hf.1.1.1.1.1.1.1.2) rfl ?_
              refine R_gy rfl rfl ?_
              refine R_p Wide.wide (P_move rfl) rfl rfl ?_
              refine R_gy rfl rfl ?_
              refine R_fv Wide.wide Try.call9 rfl (c9 (ts := ts1)) (fun h hf => hf.1.1.1.1.1.1.1.1.1.2) rfl ?_
              refine R_gy rfl rfl ?_
              refine R_p Wide.wide (P_geq rfl rfl) rfl rfl ?_
              refine R_p Wide.wide (P_pickt rfl rfl) rfl rfl ?_
              refine R_p Wide.wide (P_assign rfl) rfl rfl ?_
              refine JL_nil ?_
              refine J_ret ?_
              refine Fin.ret _ (.inl rfl) rfl (Reads.one rfl (RV.tmp rfl)) fun _ _ => congrArg Value.bool (decide_eq_true hmn2)
    · refine R_gn Wide.wide rfl rfl rfl rfl ?_
      refine R_p Wide.wide (P_pickt rfl rfl) rfl rfl ?_
      refine JL_nil ?_
      refine J_ift rfl ?_
      refine J_rs ?_
      refine R_p Wide.wide (P_move rfl) rfl rfl ?_
      refine R_p Wide.wide (P_assign rfl) rfl rfl ?_
      refine JL_nil ?_
      refine J_ret ?_
      refine Fin.ret _ (.inl rfl) rfl (Reads.one rfl (RV.tmp rfl)) fun _ _ => rfl
  · refine R_gn Wide.wide rfl rfl rfl rfl ?_
    refine R_gn Wide.wide rfl rfl rfl rfl ?_
    refine R_p Wide.wide (P_pickt rfl rfl) rfl rfl ?_
    refine R_p Wide.wide (P_move rfl) rfl rfl ?_
    refine R_gn Wide.wide rfl rfl rfl rfl ?_
    refine R_gn Wide.wide rfl rfl rfl rfl ?_
    refine R_p Wide.wide (P_pickt rfl rfl) rfl rfl ?_
    refine JL_nil ?_
    refine J_ift rfl ?_
    refine J_rs ?_
    refine R_p Wide.wide (P_move rfl) rfl rfl ?_
    refine R_p Wide.wide (P_assign rfl) rfl rfl ?_
    refine JL_nil ?_
    refine J_ret ?_
    refine Fin.ret _ (.inl rfl) rfl (Reads.one rfl (RV.tmp rfl)) fun _ _ => rfl

end Go.Proofs.Ytgheodbcgddjlaa
