/-
  The machine, part C: how a value in memory reads as data, and what blocks it reads.
-/
import Derived.Test.YtnglgoloeabbeaaMB
import Derived.Below
namespace Go.Sx
open Go Go.RowKit

theorem Ty.eq_of_beq : ∀ {a b : Ty}, a.beq b = true → a = b
  | .int a, .int b, h => by simp [Ty.beq] at h; rw [h]
  | .bool, .bool, _ => rfl
  | .str, .str, _ => rfl
  | .err, .err, _ => rfl
  | .sl a, .sl b, h => by simp only [Ty.beq] at h; rw [Ty.eqL_of_beqL h]
  | .int _, .bool, h | .int _, .str, h | .int _, .err, h | .int _, .sl _, h => by simp [Ty.beq] at h
  | .bool, .int _, h | .bool, .str, h | .bool, .err, h | .bool, .sl _, h => by simp [Ty.beq] at h
  | .str, .int _, h | .str, .bool, h | .str, .err, h | .str, .sl _, h => by simp [Ty.beq] at h
  | .err, .int _, h | .err, .bool, h | .err, .str, h | .err, .sl _, h => by simp [Ty.beq] at h
  | .sl _, .int _, h | .sl _, .bool, h | .sl _, .str, h | .sl _, .err, h => by simp [Ty.beq] at h
where
  Ty.eqL_of_beqL : ∀ {a b : List Ty}, Ty.beqL a b = true → a = b
  | [], [], _ => rfl
  | a :: as, b :: bs, h => by
    simp only [Ty.beqL, Bool.and_eq_true] at h
    rw [Ty.eq_of_beq h.1, Ty.eqL_of_beqL h.2]
  | [], _ :: _, h | _ :: _, [], h => by simp [Ty.beqL] at h

theorem Ty.eqL {a b : List Ty} (h : Ty.beqL a b = true) : a = b := Ty.eq_of_beq.Ty.eqL_of_beqL h

mutual
theorem E.eq_of_beq : ∀ {a b : E}, a.beq b = true → a = b
  | .var a, b, h => by cases b <;> simp [E.beq] at h; rw [h]
  | .int a, b, h => by cases b <;> simp [E.beq] at h; rw [h]
  | .bool a, b, h => by cases b <;> simp [E.beq] at h; rw [h]
  | .str a, b, h => by cases b <;> simp [E.beq] at h; rw [h]
  | .nil, b, h => by cases b <;> simp [E.beq] at h; rfl
  | .app f a, .app g b, h => by
    simp only [E.beq, Bool.and_eq_true, decide_eq_true_eq] at h
    rw [h.1, E.eq_of_beqL h.2]
  | .app f a, .var _, h | .app f a, .int _, h | .app f a, .bool _, h | .app f a, .str _, h | .app f a, .nil, h => by simp [E.beq] at h
theorem E.eq_of_beqL : ∀ {a b : List E}, E.beqL a b = true → a = b
  | [], [], _ => rfl
  | a :: as, b :: bs, h => by
    simp only [E.beqL, Bool.and_eq_true] at h
    rw [E.eq_of_beq h.1, E.eq_of_beqL h.2]
  | [], _ :: _, h | _ :: _, [], h => by simp [E.beqL] at h
end

/-- Cells from a place on. -/
def Holds (w : World) (b o : Nat) (vs : List Value) : Prop := ∀ k, k < vs.length → w.cell? ⟨b, o + k, none⟩ = vs[k]?

/-- A block that may be written: nothing of it is frozen, and it has so many cells. -/
def Opn (w : World) (b n : Nat) : Prop := ∃ c T, w.heap[b]? = some (.cells c T (0, 0)) ∧ n ≤ c.size

mutual
/-- A value, the data that it reads as, and the blocks that are read. 'ow': each slice's block may be written, too. -/
inductive Rep (w : World) (ow : Bool) : Ty → Value → D → List Nat → Prop
  | int {k : IntKind} {n : Int} : inR k n = true → Rep w ow (.int k) (.int k n) (.int n) []
  | bool {b : Bool} : Rep w ow .bool (.bool b) (.bool b) []
  | str {s : ByteArray} : s.size < 9223372036854775808 → Rep w ow .str (.string s) (.str s.data.toList) []
  | err0 : Rep w ow .err .nilIface (.bool false) []
  | err1 {t : TypeId} {v : Value} : Rep w ow .err (.iface t v) (.bool true) []
  | nil {ts : List Ty} : Rep w ow (.sl ts) (.slice none 0 0) (.sl []) []
  | emp {ts : List Ty} {a : Addr} {cap : Nat} : ow = false → cap < 9223372036854775808 → Rep w ow (.sl ts) (.slice (some a) 0 cap) (.sl []) []
  | sl {ts : List Ty} {b o len cap : Nat} {vs : List Value} {l : List (List D)} {fp : List Nat} :
      Holds w b o vs → l.length = len → len ≤ cap → cap < 9223372036854775808 → (ow = true → Opn w b (o + cap * ts.length)) → b < w.heap.size → RepL w ow ts vs l fp →
      Rep w ow (.sl ts) (.slice (some ⟨b, o, none⟩) len cap) (.sl l) (b :: fp)
inductive RepL (w : World) (ow : Bool) : List Ty → List Value → List (List D) → List Nat → Prop
  | nil {ts : List Ty} : RepL w ow ts [] [] []
  | cons {ts : List Ty} {vc vs : List Value} {c : List D} {l : List (List D)} {f g : List Nat} :
      RepC w ow ts vc c f → RepL w ow ts vs l g → RepL w ow ts (vc ++ vs) (c :: l) (f ++ g)
inductive RepC (w : World) (ow : Bool) : List Ty → List Value → List D → List Nat → Prop
  | nil : RepC w ow [] [] [] []
  | cons {t : Ty} {ts : List Ty} {v : Value} {vs : List Value} {d : D} {ds : List D} {f g : List Nat} :
      Rep w ow t v d f → RepC w ow ts vs ds g → RepC w ow (t :: ts) (v :: vs) (d :: ds) (f ++ g)
end

/-- The blocks of a list are in both worlds the same. -/
def Alike (w w' : World) (fp : List Nat) : Prop := ∀ k ∈ fp, w'.heap[k]? = w.heap[k]?

theorem Alike.left {w w' : World} {f g : List Nat} (h : Alike w w' (f ++ g)) : Alike w w' f := fun k hk => h k (List.mem_append_left _ hk)
theorem Alike.right {w w' : World} {f g : List Nat} (h : Alike w w' (f ++ g)) : Alike w w' g := fun k hk => h k (List.mem_append_right _ hk)
theorem Alike.tail {w w' : World} {b : Nat} {f : List Nat} (h : Alike w w' (b :: f)) : Alike w w' f := fun k hk => h k (List.mem_cons_of_mem _ hk)
theorem Alike.refl {w : World} {f : List Nat} : Alike w w f := fun _ _ => rfl
theorem Alike.mono {w w' : World} {f g : List Nat} (h : Alike w w' g) (hs : ∀ k ∈ f, k ∈ g) : Alike w w' f := fun k hk => h k (hs k hk)

theorem cell_of_heap {w w' : World} {b : Nat} (h : w'.heap[b]? = w.heap[b]?) (o : Nat) (s : Option Nat) : w'.cell? ⟨b, o, s⟩ = w.cell? ⟨b, o, s⟩ := by
  unfold World.cell?
  simp only [h]

theorem Holds.alike {w w' : World} {b o : Nat} {vs : List Value} (h : Holds w b o vs) (hb : w'.heap[b]? = w.heap[b]?) : Holds w' b o vs :=
  fun k hk => by rw [cell_of_heap hb]; exact h k hk

theorem Opn.alike {w w' : World} {b n : Nat} (h : Opn w b n) (hb : w'.heap[b]? = w.heap[b]?) : Opn w' b n := by
  obtain ⟨c, T, h1, h2⟩ := h
  exact ⟨c, T, by rw [hb, h1], h2⟩

theorem lt_of_get {w : World} {b : Nat} {o : Obj} (h : w.heap[b]? = some o) : b < w.heap.size := by
  rcases Nat.lt_or_ge b w.heap.size with h' | h'
  · exact h'
  · simp [Array.getElem?_eq_none h'] at h

theorem lt_of_same {w w' : World} {b : Nat} (h : w'.heap[b]? = w.heap[b]?) (hb : b < w.heap.size) : b < w'.heap.size := by
  rw [Array.getElem?_eq_getElem hb] at h
  exact lt_of_get h

mutual
theorem Rep.alike {w w' : World} {ow : Bool} {t : Ty} {v : Value} {d : D} {fp : List Nat} (h : Rep w ow t v d fp) (ha : Alike w w' fp) : Rep w' ow t v d fp :=
  match h with
  | .int h => .int h
  | .bool => .bool
  | .str h => .str h
  | .err0 => .err0
  | .err1 => .err1
  | .nil => .nil
  | .emp h h' => .emp h h'
  | .sl h1 h2 h3 h4 h5 h6 h7 =>
    .sl (h1.alike (ha _ (List.mem_cons_self ..))) h2 h3 h4 (fun o => (h5 o).alike (ha _ (List.mem_cons_self ..))) (lt_of_same (ha _ (List.mem_cons_self ..)) h6) (h7.alike ha.tail)
theorem RepL.alike {w w' : World} {ow : Bool} {ts : List Ty} {vs : List Value} {l : List (List D)} {fp : List Nat} (h : RepL w ow ts vs l fp) (ha : Alike w w' fp) : RepL w' ow ts vs l fp :=
  match h with
  | .nil => .nil
  | .cons h1 h2 => .cons (h1.alike ha.left) (h2.alike ha.right)
theorem RepC.alike {w w' : World} {ow : Bool} {ts : List Ty} {vs : List Value} {l : List D} {fp : List Nat} (h : RepC w ow ts vs l fp) (ha : Alike w w' fp) : RepC w' ow ts vs l fp :=
  match h with
  | .nil => .nil
  | .cons h1 h2 => .cons (h1.alike ha.left) (h2.alike ha.right)
end

mutual
/-- What may be written may be read. -/
theorem Rep.ro {w : World} {ow : Bool} {t : Ty} {v : Value} {d : D} {fp : List Nat} (h : Rep w ow t v d fp) : Rep w false t v d fp :=
  match h with
  | .int h => .int h
  | .bool => .bool
  | .str h => .str h
  | .err0 => .err0
  | .err1 => .err1
  | .nil => .nil
  | .emp _ h' => .emp rfl h'
  | .sl h1 h2 h3 h4 _ h6 h7 => .sl h1 h2 h3 h4 (fun o => nomatch o) h6 h7.ro
theorem RepL.ro {w : World} {ow : Bool} {ts : List Ty} {vs : List Value} {l : List (List D)} {fp : List Nat} (h : RepL w ow ts vs l fp) : RepL w false ts vs l fp :=
  match h with
  | .nil => .nil
  | .cons h1 h2 => .cons h1.ro h2.ro
theorem RepC.ro {w : World} {ow : Bool} {ts : List Ty} {vs : List Value} {l : List D} {fp : List Nat} (h : RepC w ow ts vs l fp) : RepC w false ts vs l fp :=
  match h with
  | .nil => .nil
  | .cons h1 h2 => .cons h1.ro h2.ro
end

mutual
/-- Every block that is read is there. -/
theorem Rep.lt {w : World} {ow : Bool} {t : Ty} {v : Value} {d : D} {fp : List Nat} (h : Rep w ow t v d fp) : ∀ k ∈ fp, k < w.heap.size :=
  match h with
  | .int _ | .bool | .str _ | .err0 | .err1 | .nil | .emp _ _ => fun k hk => nomatch hk
  | .sl _ _ _ _ _ h6 h7 => fun k hk => by
    rcases List.mem_cons.1 hk with rfl | hk
    · exact h6
    · exact h7.lt k hk
theorem RepL.lt {w : World} {ow : Bool} {ts : List Ty} {vs : List Value} {l : List (List D)} {fp : List Nat} (h : RepL w ow ts vs l fp) : ∀ k ∈ fp, k < w.heap.size :=
  match h with
  | .nil => fun k hk => nomatch hk
  | .cons h1 h2 => fun k hk => by
    rcases List.mem_append.1 hk with hk | hk
    · exact h1.lt k hk
    · exact h2.lt k hk
theorem RepC.lt {w : World} {ow : Bool} {ts : List Ty} {vs : List Value} {l : List D} {fp : List Nat} (h : RepC w ow ts vs l fp) : ∀ k ∈ fp, k < w.heap.size :=
  match h with
  | .nil => fun k hk => nomatch hk
  | .cons h1 h2 => fun k hk => by
    rcases List.mem_append.1 hk with hk | hk
    · exact h1.lt k hk
    · exact h2.lt k hk
end

theorem RepC.len {w : World} {ow : Bool} {ts : List Ty} {vs : List Value} {l : List D} {fp : List Nat} (h : RepC w ow ts vs l fp) : vs.length = ts.length ∧ l.length = ts.length := by
  match h with
  | .nil => exact ⟨rfl, rfl⟩
  | .cons _ h2 => have := h2.len; simp [this.1, this.2]

theorem RepL.len {w : World} {ow : Bool} {ts : List Ty} {vs : List Value} {l : List (List D)} {fp : List Nat} (h : RepL w ow ts vs l fp) : vs.length = l.length * ts.length := by
  match h with
  | .nil => simp
  | .cons h1 h2 => have := h1.len; have := h2.len; simp [Nat.add_mul]; omega

/-- One cell out of some. -/
theorem RepC.get {w : World} {ow : Bool} {ts : List Ty} {vs : List Value} {l : List D} {fp : List Nat} (h : RepC w ow ts vs l fp) {j : Nat} {t : Ty} (hj : ts[j]? = some t) :
    ∃ v d f, vs[j]? = some v ∧ l[j]? = some d ∧ Rep w ow t v d f ∧ ∀ k ∈ f, k ∈ fp := by
  match h, j with
  | .nil, _ => simp at hj
  | .cons h1 _, 0 => simp at hj; subst hj; exact ⟨_, _, _, rfl, rfl, h1, fun k hk => List.mem_append_left _ hk⟩
  | .cons _ h2, j + 1 =>
    obtain ⟨v, d, f, a, b, c, e⟩ := h2.get (j := j) (by simpa using hj)
    exact ⟨v, d, f, by simpa using a, by simpa using b, c, fun k hk => List.mem_append_right _ (e k hk)⟩

/-- One element out of some. -/
theorem RepL.get {w : World} {ow : Bool} {ts : List Ty} {vs : List Value} {l : List (List D)} {fp : List Nat} (h : RepL w ow ts vs l fp) {i : Nat} {c : List D} (hi : l[i]? = some c) :
    ∃ vc f, (vs.drop (i * ts.length)).take ts.length = vc ∧ RepC w ow ts vc c f ∧ ∀ k ∈ f, k ∈ fp := by
  match h, i with
  | .nil, _ => simp at hi
  | .cons h1 _, 0 =>
    simp at hi; subst hi
    refine ⟨_, _, rfl, ?_, fun k hk => List.mem_append_left _ hk⟩
    rw [Nat.zero_mul, List.drop_zero, ← h1.len.1, List.take_left]
    exact h1
  | .cons h1 h2, i + 1 =>
    obtain ⟨vc, f, a, b, e⟩ := h2.get (i := i) (by simpa using hi)
    refine ⟨vc, f, ?_, b, fun k hk => List.mem_append_right _ (e k hk)⟩
    rw [← a, Nat.succ_mul, Nat.add_comm, ← h1.len.1, List.drop_append, List.drop_of_length_le (by omega)]
    simp

theorem RepL.append {w : World} {ow : Bool} {ts : List Ty} {vs us : List Value} {l m : List (List D)} {f g : List Nat} (h : RepL w ow ts vs l f) (h' : RepL w ow ts us m g) :
    RepL w ow ts (vs ++ us) (l ++ m) (f ++ g) := by
  match h with
  | .nil => simpa using h'
  | .cons h1 h2 => have := RepL.cons h1 (h2.append h'); simpa [List.append_assoc] using this

/-- The elements are cut in two. -/
theorem RepL.split {w : World} {ow : Bool} {ts : List Ty} {vs : List Value} {l : List (List D)} {fp : List Nat} (h : RepL w ow ts vs l fp) (n : Nat) :
    ∃ f g, fp = f ++ g ∧ RepL w ow ts (vs.take (n * ts.length)) (l.take n) f ∧ RepL w ow ts (vs.drop (n * ts.length)) (l.drop n) g := by
  match h, n with
  | h, 0 => exact ⟨[], fp, rfl, by simpa using .nil, by simpa using h⟩
  | .nil, n + 1 => exact ⟨[], [], rfl, by simpa using .nil, by simpa using .nil⟩
  | .cons (f := f0) h1 h2, n + 1 =>
    obtain ⟨f, g, rfl, a, b⟩ := h2.split n
    refine ⟨f0 ++ f, g, by simp, ?_, ?_⟩
    · rw [Nat.succ_mul, Nat.add_comm, ← h1.len.1, List.take_append, List.take_of_length_le (by omega)]
      simp only [Nat.add_sub_cancel_left, List.take_succ_cons]
      rw [h1.len.1]
      exact .cons h1 a
    · rw [Nat.succ_mul, Nat.add_comm, ← h1.len.1, List.drop_append]
      simp only [List.drop_succ_cons]
      rw [List.drop_of_length_le (by omega)]
      simp only [Nat.add_sub_cancel_left, List.nil_append]
      rw [h1.len.1]
      exact b

theorem holds_append {w : World} {b o : Nat} {vs us : List Value} : Holds w b o (vs ++ us) ↔ Holds w b o vs ∧ Holds w b (o + vs.length) us := by
  constructor
  · intro h
    refine ⟨fun k hk => ?_, fun k hk => ?_⟩
    · have := h k (by simp; omega)
      rw [this, List.getElem?_append_left hk]
    · have := h (vs.length + k) (by simp; omega)
      rw [show o + vs.length + k = o + (vs.length + k) from by omega, this, List.getElem?_append_right (by omega)]
      simp
  · intro ⟨h1, h2⟩ k hk
    rcases Nat.lt_or_ge k vs.length with h | h
    · rw [h1 k h, List.getElem?_append_left h]
    · have := h2 (k - vs.length) (by simp at hk; omega)
      rw [show o + k = o + vs.length + (k - vs.length) from by omega, this, List.getElem?_append_right h]

theorem holds_take {w : World} {b o : Nat} {vs : List Value} (h : Holds w b o vs) (n : Nat) : Holds w b o (vs.take n) := by
  rw [← List.take_append_drop n vs] at h
  exact (holds_append.1 h).1
theorem holds_drop {w : World} {b o : Nat} {vs : List Value} (h : Holds w b o vs) (n : Nat) (hn : n ≤ vs.length) : Holds w b (o + n) (vs.drop n) := by
  have h' := h
  rw [← List.take_append_drop n vs] at h'
  have := (holds_append.1 h').2
  simpa [Nat.min_eq_left hn] using this

end Go.Sx
