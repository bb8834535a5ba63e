/- What the functions answer: plain functions, no program in sight. -/
import Derived.Test.YtgheodbcgddjlaaZ
set_option linter.unusedVariables false
set_option linter.unusedSimpArgs false
namespace Go.Ix
open Go.Hl

structure V where
  k : Int
  n : Int
  s : List UInt8
def V.cells (v : V) : List Value := [.int .i64 v.k, .int .i64 v.n, .string (bs v.s)]
structure Pt where
  b : Bool
  n : Int
  v : V
def Pt.cells (p : Pt) : List Value := [.bool p.b, .int .i64 p.n, .int .i64 p.v.k, .int .i64 p.v.n, .string (bs p.v.s)]
structure D where
  e : Int
  a : Int
  v : V
  t : Int
  add : Bool
  fr : Int
  to : Int
def D.cells (d : D) : List Value := [.int .i64 d.e, .int .i64 d.a, .int .i64 d.v.k, .int .i64 d.v.n, .string (bs d.v.s), .int .i64 d.t, .bool d.add, .int .i64 d.fr, .int .i64 d.to]
def V0 : V := ⟨0, 0, []⟩
def D0 : D := ⟨0, 0, V0, 0, false, 0, 0⟩
/-- What a number of 64 bits is. -/
def i64 (n : Int) : Prop := -9223372036854775808 ≤ n ∧ n ≤ 9223372036854775807

def okc (first : Bool) (c : Int) : Bool := (decide (97 ≤ c) && decide (c ≤ 122)) || (!first && ((decide (48 ≤ c) && decide (c ≤ 57)) || decide (c = 46) || decide (c = 95) || decide (c = 45) || decide (c = 47)))
def wAll : Bool → List UInt8 → Bool
  | _, [] => true
  | f, c :: r => okc f c.toNat && wAll false r
def wordB (l : List UInt8) : Bool := wAll true l && decide ((1 : Int) ≤ l.length) && decide ((l.length : Int) ≤ 64)
def mayV (v : V) : Bool :=
  if v.k = 2 then decide (0 ≤ v.n) && decide (v.n ≤ 1) && v.s == []
  else if v.k = 1 ∨ v.k = 6 then v.s == []
  else if v.k = 5 then v.s == [] && decide (0 ≤ v.n) && decide (v.n < 9007199254740992)
  else if v.k = 3 ∨ v.k = 4 then decide (v.n = 0) && decide ((v.s.length : Int) ≤ 1000)
  else if v.k = 7 then decide (v.n = 0) && wordB v.s
  else false
def mayD (d : D) : Bool := decide (0 ≤ d.e) && decide (d.e < 9007199254740992) && decide (0 ≤ d.a) && decide (d.a < 9007199254740992) && mayV d.v && decide (1 ≤ d.t) && decide (d.t ≤ 1099511627776) && decide (d.fr < d.to)
def isO (o : Int) : Bool := decide (1 ≤ o) && decide (o ≤ 4)
def hasO (o : Int) (d : D) : Bool := if o = 4 then decide (d.v.k = 5) else decide (o = 1) || decide (o = 2) || decide (o = 3)
def addN (d : D) : Int := if d.add then 0 else 1
def pn (n : Int) : Pt := ⟨false, n, V0⟩
def pv (v : V) : Pt := ⟨true, 0, v⟩
def first (o : Int) (d : D) : List Pt := if o = 1 then [pn d.e, pn d.a, pv d.v] else if o = 2 then [pn d.a, pn d.e, pv d.v] else if o = 3 then [pn d.a, pv d.v, pn d.e] else [pv d.v, pn d.a, pn d.e]
def partsL (o : Int) (d : D) : List Pt := first o d ++ [pn d.t, pn (addN d), pn d.fr, pn d.to]

/-! ### Bytes -/
def kb (a : Int) : UInt8 := UInt8.ofNat (IntKind.u8.wrap a).toNat
theorem kb_spec (a : Int) : IntKind.u8.wrap a = ((kb a).toNat : Int) := by
  have h : IntKind.u8.wrap a = a % 256 := by simp [IntKind.wrap, IntKind.signed, IntKind.bits]
  have h0 := Int.emod_nonneg a (show (256 : Int) ≠ 0 by decide)
  have h1 := Int.emod_lt_of_pos a (show (0 : Int) < 256 by decide)
  unfold kb
  rw [h]
  simp [UInt8.toNat_ofNat']
  omega
def xorN (n : Int) : Int := bits .xor .u64 (IntKind.u64.wrap n) 9223372036854775808
def encB (n : Int) (i : Nat) : UInt8 := kb (xorN n / 2 ^ (((56 - 8 * i : Nat) : Int)).toNat)
def encC (n : Int) : Nat → List UInt8
  | 0 => [0, 0, 0, 0, 0, 0, 0, 0]
  | i + 1 => (encC n i).set i (encB n i)
theorem encC_length (n : Int) : ∀ i, (encC n i).length = 8
  | 0 => rfl
  | i + 1 => by simp [encC, encC_length n i]
def encN (n : Int) : List UInt8 := encC n 8
theorem encN_length (n : Int) : (encN n).length = 8 := encC_length n 8
theorem set_mid {α : Type} {l : List α} {i : Nat} {v : α} (h : i < l.length) : l.take i ++ [v] ++ l.drop (i + [v].length) = l.set i v := by
  rw [List.set_eq_take_append_cons_drop, if_pos h]; simp
theorem cb_set (l : List UInt8) (i : Nat) (b : UInt8) : (cb l).set i (.int .u8 b.toNat) = cb (l.set i b) := by simp [cb, List.map_set]
def encT0 : List UInt8 → List UInt8
  | [] => []
  | c :: r => (if c = 0 then [c, 255] else [c]) ++ encT0 r
def encT (l : List UInt8) : List UInt8 := encT0 l ++ [0, 1]
theorem encT0_append : ∀ l m : List UInt8, encT0 (l ++ m) = encT0 l ++ encT0 m
  | [], m => rfl
  | c :: r, m => by simp [encT0, encT0_append r m]
theorem encT0_length : ∀ l : List UInt8, (encT0 l).length ≤ 2 * l.length
  | [] => Nat.le_refl _
  | c :: r => by
    have := encT0_length r
    simp only [encT0, List.length_append, List.length_cons]
    split <;> simp <;> omega
theorem take_next {α : Type} {l : List α} {i : Nat} (h : i < l.length) : l.take (i + 1) = l.take i ++ [l[i]] := by
  rw [List.take_add_one, List.getElem?_eq_getElem h]; rfl
def encV (v : V) : List UInt8 := kb v.k :: (if v.k = 2 then [kb v.n] else if v.k = 3 ∨ v.k = 4 ∨ v.k = 7 then encT v.s else encN v.n)
theorem encV_length (v : V) : (encV v).length ≤ 2 * v.s.length + 9 := by
  have h1 := encT0_length v.s
  have h2 := encN_length v.n
  unfold encV
  simp only [List.length_cons]
  split
  · simp
  · split
    · simp [encT]; omega
    · omega
def encP (p : Pt) : List UInt8 := if p.b then encV p.v else encN p.n
def okP (p : Pt) : Bool := !p.b || mayV p.v
theorem mayV_length {v : V} (h : mayV v = true) : v.s.length ≤ 1000 := by
  unfold mayV at h
  repeat' split at h
  all_goals (simp [wordB] at h; try omega)
  all_goals (simp [h])
theorem encP_length {p : Pt} (h : okP p = true) : (encP p).length ≤ 2009 := by
  unfold encP
  split
  · rename_i hb
    have := mayV_length (v := p.v) (by simpa [okP, hb] using h)
    have := encV_length p.v
    omega
  · rw [encN_length]; omega
def keyL (l : List Pt) : List UInt8 := l.flatMap encP
theorem keyL_length : ∀ {l : List Pt}, (∀ p ∈ l, okP p = true) → (keyL l).length ≤ 2009 * l.length
  | [], _ => Nat.le_refl _
  | p :: r, h => by
    have h1 := encP_length (h p (List.mem_cons_self ..))
    have h2 := keyL_length (l := r) fun q hq => h q (List.mem_cons_of_mem _ hq)
    simp only [keyL, List.flatMap_cons, List.length_append, List.length_cons] at h2 ⊢
    omega
/-- A slice value that reads as these bytes. -/
def Bs (h : Hp) (v : Value) (l : List UInt8) : Prop := Rd h v l.length (cb l)
instance {v : Value} {l : List UInt8} : Mono (fun h => Bs h v l) := inferInstanceAs (Mono (fun h => Rd h v l.length (cb l)))
/-- .. as these parts. -/
def RdP (h : Hp) (v : Value) (l : List Pt) : Prop := Rd h v l.length (l.flatMap Pt.cells)
instance {v : Value} {l : List Pt} : Mono (fun h => RdP h v l) := inferInstanceAs (Mono (fun h => Rd h v l.length (l.flatMap Pt.cells)))

/-! ### What iterators tell -/
def encP2 (p : Pt × Nat) : List Value := [.int .i64 (p.2 : Nat), .agg p.1.cells.toArray]
theorem Pt.cells_length (p : Pt) : p.cells.length = 5 := rfl
theorem D.cells_length (d : D) : d.cells.length = 9 := rfl
theorem first_length (o : Int) (d : D) : (first o d).length = 3 := by unfold first; split <;> (try split) <;> (try split) <;> rfl
theorem partsL_length (o : Int) (d : D) : (partsL o d).length = 7 := by simp [partsL, first_length]
def firstC (o : Int) (d : D) : List Value := (first o d).flatMap Pt.cells
theorem zip_split {α : Type} {l : List α} {i : Nat} (h : i < l.length) : l.zipIdx = l.zipIdx.take i ++ (l[i], i) :: l.zipIdx.drop (i + 1) := by
  have h' : i < l.zipIdx.length := by simpa using h
  have e : l.zipIdx[i] = (l[i], i) := by simp
  rw [← e, List.getElem_cons_drop, List.take_append_drop]
theorem zip_take {α : Type} {l : List α} {i : Nat} (h : i < l.length) : l.zipIdx.take i ++ [(l[i], i)] = l.zipIdx.take (i + 1) := by
  have h' : i < l.zipIdx.length := by simpa using h
  have e : l.zipIdx[i] = (l[i], i) := by simp
  rw [← e, take_next h']

theorem flat_mid {α : Type} (f : α → List Value) {z : Nat} (hz : ∀ x, (f x).length = z) : ∀ {L : List α} {i : Nat} {x : α}, L[i]? = some x → ((L.flatMap f).drop (i * z)).take z = f x
  | [], i, x, h => by simp at h
  | y :: L, 0, x, h => by
    simp only [List.getElem?_cons_zero, Option.some.injEq] at h; subst h
    have := hz y
    simp [← this]
  | y :: L, i + 1, x, h => by
    have := flat_mid f hz (L := L) (i := i) (by simpa using h)
    rw [List.flatMap_cons, Nat.succ_mul, Nat.add_comm, ← List.drop_drop, ← hz y, List.drop_left, hz y]; exact this
theorem flat_len {α : Type} (f : α → List Value) {z : Nat} (hz : ∀ x, (f x).length = z) : ∀ (L : List α), (L.flatMap f).length = L.length * z
  | [] => by simp
  | y :: L => by rw [List.flatMap_cons, List.length_append, hz, flat_len f hz L, List.length_cons, Nat.succ_mul]; omega

theorem okP_parts (o : Int) {d : D} (h : mayD d = true) : (partsL o d).all okP = true := by
  have hv : mayV d.v = true := by simp [mayD] at h; exact h.1.1.1.2
  have h1 : ∀ n, okP (pn n) = true := fun n => rfl
  have h2 : okP (pv d.v) = true := by simp [okP, pv, hv]
  unfold partsL first
  split <;> (try split) <;> (try split) <;> simp [h1, h2]
def keyOk (o : Int) (d : D) : Bool := isO o && mayD d && hasO o d
def keyE (o : Int) (d : D) : Int := if isO o then (if mayD d && hasO o d then 0 else 40) else 2
def keyD (o : Int) (d : D) : List UInt8 := if keyOk o d then keyL (partsL o d) else []
theorem parts_s (o : Int) (d : D) (n : Nat) (h : d.v.s.length ≤ n) : ∀ p ∈ partsL o d, p.v.s.length ≤ n := by
  have h1 : ∀ k, (pn k).v.s.length ≤ n := fun k => Nat.zero_le _
  have h2 : (pv d.v).v.s.length ≤ n := h
  unfold partsL first
  split <;> (try split) <;> (try split) <;> simp [h1, h2]
end Go.Ix
