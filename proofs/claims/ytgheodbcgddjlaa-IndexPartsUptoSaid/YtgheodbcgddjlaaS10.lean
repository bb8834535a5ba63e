/- The plain law: trees with the same keys tell the same; adding is the same in whatever order. -/
import Derived.Test.YtgheodbcgddjlaaW21
set_option linter.unusedVariables false
set_option linter.unusedSimpArgs false
namespace Go.Ix
open Go.Hl
theorem cmpB_eq : ∀ {x y : List UInt8}, cmpB x y = 0 → x = y
  | [], [], _ => rfl
  | [], _ :: _, h => by simp [cmpB] at h
  | _ :: _, [], h => by simp [cmpB] at h
  | a :: x, b :: y, h => by
    simp only [cmpB] at h
    split at h
    · rename_i e; rw [e, cmpB_eq h]
    · split at h <;> simp at h
theorem cmpB_self : ∀ x : List UInt8, cmpB x x = 0
  | [] => rfl
  | a :: x => by simp only [cmpB, if_true]; exact cmpB_self x
theorem cmpB_swap : ∀ x y : List UInt8, cmpB y x = - cmpB x y
  | [], [] => rfl
  | [], _ :: _ => rfl
  | _ :: _, [] => rfl
  | a :: x, b :: y => by
    simp only [cmpB]
    by_cases e : a = b
    · subst e; simp only [if_true]; exact cmpB_swap x y
    · rw [if_neg e, if_neg (Ne.symm e)]
      have h1 := UInt8.lt_iff_toNat_lt (a := a) (b := b)
      have h2 := UInt8.lt_iff_toNat_lt (a := b) (b := a)
      have h3 : a.toNat ≠ b.toNat := fun h => e (UInt8.toNat_inj.1 h)
      by_cases h : a < b
      · rw [if_pos h, if_neg (by rw [h2]; rw [h1] at h; omega)]; rfl
      · rw [if_neg h, if_pos (by rw [h2]; rw [h1] at h; omega)]
theorem cmpB_trans : ∀ {x y z : List UInt8}, cmpB x y < 0 → cmpB y z < 0 → cmpB x z < 0
  | [], [], _, h, _ => by simp [cmpB] at h
  | [], _ :: _, [], _, h => by simp [cmpB] at h
  | [], _ :: _, _ :: _, _, _ => by simp [cmpB]
  | _ :: _, [], _, h, _ => by simp [cmpB] at h
  | _ :: _, _ :: _, [], _, h => by simp [cmpB] at h
  | a :: x, b :: y, c :: z, h, k => by
    simp only [cmpB] at h k ⊢
    by_cases e : a = b
    · subst e
      rw [if_pos rfl] at h
      by_cases e2 : a = c
      · subst e2
        rw [if_pos rfl] at k ⊢
        exact cmpB_trans h k
      · rw [if_neg e2] at k ⊢; exact k
    · rw [if_neg e] at h
      have h1 : a < b := by
        by_cases h1 : a < b
        · exact h1
        · rw [if_neg h1] at h; omega
      by_cases e2 : b = c
      · subst e2
        rw [if_neg e, if_pos h1]; omega
      · rw [if_neg e2] at k
        have h2 : b < c := by
          by_cases h2 : b < c
          · exact h2
          · rw [if_neg h2] at k; omega
        rw [UInt8.lt_iff_toNat_lt] at h1 h2
        have h3 : a < c := by rw [UInt8.lt_iff_toNat_lt]; omega
        have h4 : a ≠ c := fun h => by subst h; omega
        rw [if_neg h4, if_pos h3]; omega

/-- The keys in order. -/
def S.toL : S → List (List UInt8)
  | .nil => []
  | .node k l r _ _ => l.toL ++ k :: r.toL
abbrev Sorted (l : List (List UInt8)) : Prop := l.Pairwise fun x y => cmpB x y < 0
theorem S.cnt_toL : ∀ s : S, s.cnt = s.toL.length
  | .nil => rfl
  | .node k l r _ _ => by simp only [S.cnt, S.toL, List.length_append, List.length_cons, S.cnt_toL l, S.cnt_toL r]; omega
theorem toL_join {k : List UInt8} {l r : S} : (joinS k l r).toL = l.toL ++ k :: r.toL := rfl
theorem toL_level {k : List UInt8} {l r : S} (hl : l.Wf) (hr : r.Wf) : (levelS k l r).toL = l.toL ++ k :: r.toL := by
  have dl := hl.dp; have dr := hr.dp
  unfold levelS
  split
  · rename_i h1
    obtain ⟨k1, ll, lr, d, m, rfl⟩ := S.node_of (s := l) (by omega)
    obtain ⟨_, _, _, wl, wr⟩ := hl
    by_cases h2 : lr.dp ≤ ll.dp
    · rw [if_pos (show (S.node k1 ll lr d m).right.dp ≤ (S.node k1 ll lr d m).left.dp from h2)]
      simp [toL_join, S.toL, S.left, S.right, S.key]
    · rw [if_neg (show ¬ (S.node k1 ll lr d m).right.dp ≤ (S.node k1 ll lr d m).left.dp from h2)]
      have := wl.dp
      obtain ⟨k2, l2, r2, d2, m2, rfl⟩ := S.node_of (s := lr) (by omega)
      simp [toL_join, S.toL, S.left, S.right, S.key]
  · split
    · rename_i h1 h3
      obtain ⟨k1, rl, rr, d, m, rfl⟩ := S.node_of (s := r) (by omega)
      obtain ⟨_, _, _, wl, wr⟩ := hr
      by_cases h2 : rl.dp ≤ rr.dp
      · rw [if_pos (show (S.node k1 rl rr d m).left.dp ≤ (S.node k1 rl rr d m).right.dp from h2)]
        simp [toL_join, S.toL, S.left, S.right, S.key]
      · rw [if_neg (show ¬ (S.node k1 rl rr d m).left.dp ≤ (S.node k1 rl rr d m).right.dp from h2)]
        have := wr.dp
        obtain ⟨k2, l2, r2, d2, m2, rfl⟩ := S.node_of (s := rl) (by omega)
        simp [toL_join, S.toL, S.left, S.right, S.key]
    · rfl
theorem putS_spec (k : List UInt8) : ∀ {s : S}, s.Wf → Sorted s.toL → Sorted (putS k s).toL ∧ ∀ x, x ∈ (putS k s).toL ↔ x = k ∨ x ∈ s.toL
  | .nil, _, _ => by simp [putS, S.toL]
  | .node k1 l r d m, h, hs => by
    obtain ⟨_, _, _, wl, wr⟩ := h
    have hs0 := hs
    simp only [S.toL, Sorted, List.pairwise_append, List.pairwise_cons] at hs
    obtain ⟨sl, ⟨hkr, sr⟩, hlr⟩ := hs
    have il := putS_spec k wl sl
    have ir := putS_spec k wr sr
    unfold putS
    split
    · rename_i hc
      rw [toL_level (putS_wf k wl).1 wr]
      refine ⟨?_, fun x => ?_⟩
      · simp only [Sorted, List.pairwise_append, List.pairwise_cons]
        refine ⟨il.1, ⟨hkr, sr⟩, fun a ha b hb => ?_⟩
        rcases (il.2 a).1 ha with rfl | ha
        · rcases List.mem_cons.1 hb with rfl | hb
          · exact hc
          · exact cmpB_trans hc (hkr b hb)
        · exact hlr a ha b hb
      · simp only [S.toL, List.mem_append, List.mem_cons, il.2 x]
        exact or_assoc
    · split
      · rename_i hc0 hc
        have hc' : cmpB k1 k < 0 := by rw [cmpB_swap]; omega
        rw [toL_level wl (putS_wf k wr).1]
        refine ⟨?_, fun x => ?_⟩
        · simp only [Sorted, List.pairwise_append, List.pairwise_cons]
          refine ⟨sl, ⟨fun a ha => ?_, ir.1⟩, fun a ha b hb => ?_⟩
          · rcases (ir.2 a).1 ha with rfl | ha
            · exact hc'
            · exact hkr a ha
          · rcases List.mem_cons.1 hb with rfl | hb
            · exact hlr a ha _ (List.mem_cons_self ..)
            · rcases (ir.2 b).1 hb with rfl | hb
              · exact cmpB_trans (hlr a ha k1 (List.mem_cons_self ..)) hc'
              · exact hlr a ha b (List.mem_cons_of_mem _ hb)
        · simp only [S.toL, List.mem_append, List.mem_cons, ir.2 x]
          constructor
          · rintro (h | h | h | h)
            · exact .inr (.inl h)
            · exact .inr (.inr (.inl h))
            · exact .inl h
            · exact .inr (.inr (.inr h))
          · rintro (h | h | h | h)
            · exact .inr (.inr (.inl h))
            · exact .inl h
            · exact .inr (.inl h)
            · exact .inr (.inr (.inr h))
      · rename_i hc0 hc
        obtain rfl : k = k1 := cmpB_eq (by omega)
        refine ⟨hs0, fun x => ?_⟩
        simp only [toL_join, S.toL, List.mem_append, List.mem_cons]
        constructor
        · exact .inr
        · rintro (h | h)
          · exact .inr (.inl h)
          · exact h
theorem sorted_ext : ∀ {l m : List (List UInt8)}, Sorted l → Sorted m → (∀ x, x ∈ l ↔ x ∈ m) → l = m
  | [], [], _, _, _ => rfl
  | [], y :: m, _, _, h => by have := (h y).2 (List.mem_cons_self ..); cases this
  | x :: l, [], _, _, h => by have := (h x).1 (List.mem_cons_self ..); cases this
  | x :: l, y :: m, hl, hm, h => by
    rw [Sorted, List.pairwise_cons] at hl hm
    have exy : x = y := by
      rcases List.mem_cons.1 ((h x).1 (List.mem_cons_self ..)) with e | hx
      · exact e
      · rcases List.mem_cons.1 ((h y).2 (List.mem_cons_self ..)) with e | hy
        · exact e.symm
        · have h1 := hm.1 x hx
          have h2 := hl.1 y hy
          rw [cmpB_swap] at h1; omega
    subst exy
    rw [sorted_ext hl.2 hm.2 fun z => ?_]
    have hz := h z
    simp only [List.mem_cons] at hz
    constructor
    · intro hzl
      rcases hz.1 (.inr hzl) with e | h'
      · subst e; have := hl.1 z hzl; rw [cmpB_self] at this; omega
      · exact h'
    · intro hzm
      rcases hz.2 (.inr hzm) with e | h'
      · subst e; have := hm.1 z hzm; rw [cmpB_self] at this; omega
      · exact h'
/-- Trees in order. -/
def Fine (ss : Nat → S) : Prop := ∀ o, (ss o).Wf ∧ Sorted (ss o).toL
theorem Fine.nil : Fine fun _ => .nil := fun _ => ⟨trivial, List.Pairwise.nil⟩
theorem putD_spec {ss : Nat → S} (d : D) (h : Fine ss) : Fine (putD ss d) ∧ ∀ o x, x ∈ (putD ss d o).toL ↔ x ∈ (ss o).toL ∨ ((1 ≤ o ∧ o < 5) ∧ keyOk o d = true) ∧ x = keyD o d := by
  have key : ∀ o, ((putD ss d o).Wf ∧ Sorted (putD ss d o).toL) ∧ ∀ x, x ∈ (putD ss d o).toL ↔ x ∈ (ss o).toL ∨ ((1 ≤ o ∧ o < 5) ∧ keyOk o d = true) ∧ x = keyD o d := fun o => by
    unfold putD putN
    by_cases hc : (1 ≤ o ∧ o < 5) ∧ keyOk o d = true
    · rw [if_pos hc]
      have h1 := putS_spec (keyD o d) (h o).1 (h o).2
      refine ⟨⟨(putS_wf _ (h o).1).1, h1.1⟩, fun x => ?_⟩
      rw [h1.2]
      constructor
      · rintro (h | h)
        · exact .inr ⟨hc, h⟩
        · exact .inl h
      · rintro (h | h)
        · exact .inr h
        · exact .inl h.2
    · rw [if_neg hc]
      refine ⟨h o, fun x => ⟨.inl, ?_⟩⟩
      rintro (h | h)
      · exact h
      · exact absurd h.1 hc
  exact ⟨fun o => (key o).1, fun o => (key o).2⟩
theorem addL_spec : ∀ (l : List D) {ss : Nat → S}, Fine ss → Fine (addL ss l) ∧ ∀ o x, x ∈ (addL ss l o).toL ↔ x ∈ (ss o).toL ∨ ∃ d ∈ l, ((1 ≤ o ∧ o < 5) ∧ keyOk o d = true) ∧ x = keyD o d
  | [], _, h => ⟨h, fun o x => by simp [addL]⟩
  | d :: l, ss, h => by
    have h1 := putD_spec d h
    have h2 := addL_spec l h1.1
    refine ⟨h2.1, fun o x => ?_⟩
    have h3 := h2.2 o x
    rw [h1.2] at h3
    show x ∈ (addL (putD ss d) l o).toL ↔ _
    rw [h3]
    simp only [List.mem_cons, exists_eq_or_imp]
    exact or_assoc
theorem addL_keys {ss : Nat → S} (h : ∀ o, ∀ x ∈ (ss o).toL, x.length ≤ 14063) (hf : Fine ss) (l : List D) : ∀ o, ∀ x ∈ (addL ss l o).toL, x.length ≤ 14063 := fun o x hx => by
  rcases ((addL_spec l hf).2 o x).1 hx with hx | ⟨d, _, _, rfl⟩
  · exact h o x hx
  · exact keyD_length _ _
/-- Keys from one on. -/
def fromS (lo : List UInt8) : S → List (List UInt8)
  | .nil => []
  | .node k l r _ _ => (if 0 ≤ cmpB k lo then fromS lo l ++ [k] else []) ++ fromS lo r
theorem fromT_S (lo : List UInt8) : ∀ t : T, (fromT lo t).map T.key = fromS lo t.sh
  | .nil => rfl
  | .node a kv k l r d m => by
    simp only [fromT, T.sh, fromS, List.map_append, fromT_S lo r]
    split
    · simp [fromT_S lo l, T.key]
    · rfl
def stopK (to k : List UInt8) : Bool := decide ((0 : Int) < to.length) && decide (0 ≤ cmpB k to)
def beginS (o : Int) (pre : List UInt8) (s : S) : List D := readAll o ((fromS pre s).takeWhile fun k => !stopK (endP pre) k)
theorem beginL_S (o : Int) (pre : List UInt8) (t : T) : beginL o pre t = beginS o pre t.sh := by
  unfold beginL beginS rangeT
  rw [← fromT_S, List.takeWhile_map]
  rfl
theorem fromS_nil : ∀ s : S, fromS [] s = s.toL
  | .nil => rfl
  | .node k l r _ _ => by
    have h : 0 ≤ cmpB k [] := by cases k <;> simp [cmpB]
    simp only [fromS, S.toL, if_pos h, fromS_nil l, fromS_nil r]; simp
theorem beginS_nil (o : Int) (s : S) : beginS o [] s = readAll o s.toL := by
  unfold beginS
  rw [fromS_nil, takeWhile_all]
  intro x _
  have : endP [] = [] := rfl
  rw [this]; rfl
theorem fromS_mem (lo : List UInt8) : ∀ {s : S} {x : List UInt8}, x ∈ fromS lo s → x ∈ s.toL
  | .nil, x, h => by simp [fromS] at h
  | .node k l r _ _, x, h => by
    simp only [fromS, List.mem_append] at h
    simp only [S.toL, List.mem_append, List.mem_cons]
    rcases h with h | h
    · split at h
      · rcases List.mem_append.1 h with h | h
        · exact .inl (fromS_mem lo h)
        · rw [List.mem_singleton] at h; exact .inr (.inl h)
      · simp at h
    · exact .inr (.inr (fromS_mem lo h))
theorem fromT_key {lo : List UInt8} {t : T} {n : Nat} (h : ∀ x ∈ t.sh.toL, x.length ≤ n) : ∀ x ∈ fromT lo t, x.key.length ≤ n := fun x hx => h _ (fromS_mem lo (by rw [← fromT_S]; exact List.mem_map_of_mem hx))
theorem nodup_length : ∀ {l m : List (List UInt8)}, l.Nodup → (∀ x ∈ l, x ∈ m) → l.length ≤ m.length
  | [], _, _, _ => Nat.zero_le _
  | x :: l, m, hn, h => by
    rw [List.nodup_cons] at hn
    have hx : x ∈ m := h x (List.mem_cons_self ..)
    have h1 := nodup_length (m := m.erase x) hn.2 (fun y hy => (List.mem_erase_of_ne (show y ≠ x from fun e => hn.1 (by rw [← e]; exact hy))).2 (h y (List.mem_cons_of_mem _ hy)))
    rw [List.length_erase_of_mem hx] at h1
    have := List.length_pos_of_mem hx
    simp only [List.length_cons]; omega
theorem sorted_length {l m : List (List UInt8)} (hl : Sorted l) (h : ∀ x ∈ l, x ∈ m) : l.length ≤ m.length :=
  nodup_length (hl.imp fun {a b} hab e => by subst e; rw [cmpB_self] at hab; omega) h
end Go.Ix
