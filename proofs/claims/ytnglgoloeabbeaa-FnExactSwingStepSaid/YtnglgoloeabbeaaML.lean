/-
  The machine, part L: what is put behind a row.
-/
import Derived.Test.YtnglgoloeabbeaaMK
namespace Go.Sx
open Go Go.RowKit
set_option linter.unusedSimpArgs false
set_option linter.unusedVariables false

/-- What is put behind: so many elements, these cells. -/
structure SrcIs (P : Program) (w : World) (size : Nat) (x : Value) (n : Nat) (news : List Value) : Prop where
  len : ∀ w', (Builtin.lenOf x).run P w' = .ok n w'
  cells : ∀ w' : World, w'.heap = w.heap → (Builtin.firstCells size n x).run P w' = .ok news.toArray w'
  length : news.length = n * size
  one : ∀ v ∈ news, v.oneCell' = true

theorem rep_one {w : World} {ow : Bool} {t : Ty} {v : Value} {d : D} {f : List Nat} (h : Rep w ow t v d f) : v.oneCell' = true := by cases h <;> rfl
theorem repC_one {w : World} {ow : Bool} : ∀ {ts : List Ty} {vs : List Value} {ds : List D} {f : List Nat}, RepC w ow ts vs ds f → ∀ v ∈ vs, v.oneCell' = true
  | _, _, _, _, .nil => fun _ h => nomatch h
  | _, _, _, _, .cons h1 h2 => fun v hv => by
    rcases List.mem_cons.1 hv with rfl | hv
    · exact rep_one h1
    · exact repC_one h2 v hv
theorem repL_one {w : World} {ow : Bool} {ts : List Ty} : ∀ {vs : List Value} {l : List (List D)} {f : List Nat}, RepL w ow ts vs l f → ∀ v ∈ vs, v.oneCell' = true
  | _, _, _, .nil => fun _ h => nomatch h
  | _, _, _, .cons h1 h2 => fun v hv => by
    rcases List.mem_append.1 hv with hv | hv
    · exact repC_one h1 v hv
    · exact repL_one h2 v hv

theorem cell_heap {w w' : World} (h : w'.heap = w.heap) (a : Addr) (hs : a.spot = none) : w'.cell? a = w.cell? a := by
  obtain ⟨b, o, s⟩ := a
  exact cell_of_heap (by rw [h]) _ _

section
variable {P : Program} {c : Ctx} {sl : Nat → AV} {a : Act} {B : Base} {o : Oper} {sigs : Nat → Option Sig} {clean : List Nat} {g : E} {e : Eff} {pre : Nat → List D → Prop}

theorem holds_src {w : World} {b o' len cap n size : Nat} {vs : List Value} (h : Holds w b o' vs) (hl : vs.length = n * size) (h1 : ∀ v ∈ vs, v.oneCell' = true) (hn : n = len) : SrcIs P w size (.slice (some ⟨b, o', none⟩) len cap) n vs where
  len := fun w' => by rw [hn]; simp [Builtin.lenOf]
  cells := fun w' hw => run_firstCells_some w' size n ⟨b, o', none⟩ len cap vs hl fun j v hj => by
    have hlt : j < vs.length := by
      rcases Nat.lt_or_ge j vs.length with h | h
      · exact h
      · simp [List.getElem?_eq_none h] at hj
    rw [addr_add, cell_of_heap (w := w) (w' := w') (by rw [hw]), h j hlt, hj]
  length := hl
  one := h1

/-- A slice that reads as data, as what is put behind. -/
theorem rep_src {w : World} {ow : Bool} {ts : List Ty} {v : Value} {d : List (List D)} {fp : List Nat} (h : Rep w ow (.sl ts) v (.sl d) fp) : ∃ news fp', SrcIs P w ts.length v d.length news ∧ RepL w ow ts news d fp' ∧ ∀ k ∈ fp', k ∈ fp := by
  cases h with
  | nil => exact ⟨[], [], ⟨fun w' => by simp [Builtin.lenOf], fun w' _ => by simp [Builtin.firstCells], by simp, fun _ h => nomatch h⟩, .nil, fun _ h => nomatch h⟩
  | emp _ _ => exact ⟨[], [], ⟨fun w' => by simp [Builtin.lenOf], fun w' _ => by simp [Builtin.firstCells, loadCells, loadCellsFrom], by simp, fun _ h => nomatch h⟩, .nil, fun _ h => nomatch h⟩
  | sl h1 h2 h3 h4 h5 h6 h7 => exact ⟨_, _, holds_src h1 (h7.len) (repL_one h7) h2, h7, fun k hk => List.mem_cons_of_mem _ hk⟩

theorem bytes_src {w : World} {s : ByteArray} : SrcIs P w 1 (.string s) s.data.toList.length (s.data.toList.map fun b => Value.int .u8 b.toNat) where
  len := fun w' => by simp [Builtin.lenOf]
  cells := fun w' _ => by
    have e1 : s.data.toList.length = s.size := by simp
    simp only [Builtin.firstCells, e1]
    have : (s.extract 0 s.size).data = s.data := by simp
    rw [this]
    have e2 : Array.map (fun b : UInt8 => Value.int IntKind.u8 ↑b.toNat) s.data = (List.map (fun b : UInt8 => Value.int IntKind.u8 ↑b.toNat) s.data.toList).toArray := by
      apply Array.ext'
      simp
    simp only [e2]
    rfl
  length := by simp
  one := fun v hv => by
    obtain ⟨b, _, rfl⟩ := List.mem_map.1 hv
    rfl

theorem bytes_rep {w : World} : ∀ (l : List UInt8), RepL w true [.int .u8] (l.map fun b => Value.int .u8 b.toNat) (l.map fun b => [D.int b.toNat]) []
  | [] => .nil
  | b :: l => by
    have h1 : inR .u8 (b.toNat : Int) = true := by
      have := b.toNat_lt
      rw [inR_iff]; simp [IntKind.min, IntKind.max, IntKind.signed, IntKind.bits]; omega
    have := RepL.cons (RepC.cons (Rep.int (w := w) (ow := true) h1) .nil) (bytes_rep l)
    simpa using this

theorem noSl_own {w : World} {ow : Bool} : ∀ {ts : List Ty} {vs : List Value} {ds : List D} {f : List Nat}, noSl ts = true → RepC w ow ts vs ds f → RepC w true ts vs ds []
  | _, _, _, _, _, .nil => .nil
  | _, _, _, _, h, .cons h1 h2 => by
    simp only [noSl, List.all_cons, Bool.and_eq_true, Bool.not_eq_true'] at h
    have := RepC.cons (rep_own h1 h.1).1 (noSl_own (by simpa [noSl] using h.2) h2)
    rw [(rep_own h1 h.1).2] at this
    exact this
theorem noSl_ownL {w : World} {ow : Bool} {ts : List Ty} (h : noSl ts = true) : ∀ {vs : List Value} {l : List (List D)} {f : List Nat}, RepL w ow ts vs l f → RepL w true ts vs l []
  | _, _, _, .nil => .nil
  | _, _, _, .cons h1 h2 => by
    have := RepL.cons (noSl_own h h1) (noSl_ownL h h2)
    exact this

theorem noSl_fpL {w : World} {ow : Bool} {ts : List Ty} (h : noSl ts = true) : ∀ {vs : List Value} {l : List (List D)} {f : List Nat}, RepL w ow ts vs l f → f = []
  | _, _, _, .nil => rfl
  | _, _, _, .cons h1 h2 => by rw [noSl_fp h h1, noSl_fpL h h2]; rfl

theorem appSl_ok (s : Sim B c sl a) {sl0 : Nat → AV} {ts : List Ty} {x : AV} {v : Value} (hv : AVOk c x v) {q : E × Bool × List (Nat × Blk)} (h : (appSl ts x).val sl0 c.hp = some q) :
    ∃ n news d fp, SrcIs P c.w ts.length v n news ∧ c.den q.1 = .sl d ∧ d.length = n ∧ RepL c.w q.2.1 ts news d fp ∧ Took c q.2.1 q.2.2 fp := by
  -- what is only read
  have ro : ∀ {ex : E} {fp : List Nat}, Rep c.w false (.sl ts) v (c.den ex) fp → (∀ k ∈ fp, Perm c.hp c.L k) →
      ∃ n news d fp, SrcIs P c.w ts.length v n news ∧ c.den ex = .sl d ∧ d.length = n ∧ RepL c.w false ts news d fp ∧ Took c false [] fp := by
    intro ex fp hr hp
    obtain ⟨d, hd⟩ := rep_isSl hr
    rw [hd] at hr
    obtain ⟨news, fp', a1, a2, a3⟩ := rep_src (P := P) hr
    exact ⟨_, news, d, fp', a1, hd, rfl, a2, Took.read fun k hk => hp k (a3 k hk)⟩
  unfold appSl at h
  split at h
  · rename_i b g'
    simp only [Rd.val_bind, Rd.val_blk, Option.bind_some] at h
    split at h
    case h_2 => simp at h
    rename_i g'' u ts' ex own cl live hb
    simp only [Rd.val_bind, Rd.if_bind, Bool.and_eq_true, beq_iff_eq] at h
    obtain ⟨⟨rfl, h1⟩, h⟩ := h
    simp at h; subst h
    have hbk := s.blks _ _ hb
    have := Ty.eqL h1
    subst this
    rw [hv.2.2 _ _ _ _ _ _ hb]
    obtain ⟨⟨d, hd, hro⟩, hb2, hb3, hb4, hb5⟩ := hbk
    have hused : Used c [(b, .row g'' u ts' ex own cl false)] := fun y hy => by
      rw [List.mem_singleton.1 hy]
      exact ⟨_, _, _, _, _, _, _, rfl, hb⟩
    have htook : Took c (own && live) [(b, .row g'' u ts' ex own cl false)] (c.L b).fp := ⟨hused, fun k hk => row_took s hb k (List.mem_append_right _ hk), fun ho => by
      simp only [Bool.and_eq_true] at ho
      obtain ⟨rfl, rfl⟩ := ho
      exact ⟨(List.nodup_append.1 (hb4 rfl rfl)).2.1, fun k hk => ⟨b, List.mem_singleton.2 rfl, _, hb, by simp [acc]; exact .inr hk⟩⟩⟩
    rcases hro with ⟨q1, rfl, q3⟩ | ⟨o', len, cap, vs, e1, e2, e3, e4, e5, e6, e7, e8⟩
    · rw [q1]
      refine ⟨0, [], [], (c.L b).fp, ⟨fun w' => by simp [Builtin.lenOf], fun w' _ => by simp [Builtin.firstCells], by simp, fun _ h => nomatch h⟩, hd, rfl, ?_, htook⟩
      rw [q3]; exact .nil
    · rw [e1]
      exact ⟨_, vs, d, (c.L b).fp, holds_src e2 e8.len (repL_one e8) e3, hd, rfl, e8.weak fun h => by simp only [Bool.and_eq_true] at h; exact h.1, htook⟩
  · rename_i b g' lo hi
    simp only [Rd.val_bind, Rd.val_blk, Option.bind_some] at h
    split at h
    case h_2 => simp at h
    rename_i g'' u ts' ex own cl live hb
    simp only [Rd.val_bind, Rd.if_bind, Bool.and_eq_true, Bool.or_eq_true, Bool.not_eq_true', beq_iff_eq] at h
    obtain ⟨⟨⟨rfl, h1⟩, hlc⟩, h⟩ := h
    simp at h; subst h
    have := Ty.eqL h1
    subst this
    have hbk := s.blks _ _ hb
    obtain ⟨l, hh, a1, a2, a3⟩ := hv.2.2 _ _ _ _ _ _ hb
    obtain ⟨d, hd⟩ := RowOk.isSl hbk
    have hr := row_rep hbk
    rw [hd] at hr
    obtain ⟨f, hsub, hf⟩ := part_rep hr a3
    have hden : c.den (.app .slice [ex, lo, hi]) = .sl ((d.take hh).drop l) := by rw [den_slice a1 a2, hd]; rfl
    cases live with
    | false =>
      exact ro (by rw [hden]; exact hf) fun k hk => hbk.2.1 rfl k (hsub.subset hk)
    | true =>
      have hcl : cl = false := by simpa using hlc
      subst hcl
      -- the elements' blocks alone: never the row's own
      obtain ⟨⟨d', hd', hro⟩, hb2, hb3, hb4, hb5⟩ := hbk
      rw [hd] at hd'
      simp only [D.sl.injEq] at hd'
      subst hd'
      rcases hro with ⟨q1, rfl, q3⟩ | ⟨o', len, cap, vs, e1, e2, e3, e4, e5, e6, e7, e8⟩
      · rw [q1] at a3
        obtain ⟨r1, r2, r3, r4⟩ := a3
        have z1 : hh = 0 := by omega
        have z2 : l = 0 := by omega
        subst z1; subst z2
        simp at r4
        rw [r4]
        exact ⟨0, [], _, [], ⟨fun w' => by simp [Builtin.lenOf], fun w' _ => by simp [Builtin.firstCells], by simp, fun _ h => nomatch h⟩, hden, by simp, by simpa using .nil, Took.read fun _ h => nomatch h⟩
      · have hf2 : ∃ f2, (∀ k ∈ f2, k ∈ (c.L b).fp) ∧ ∃ news, SrcIs P c.w ts'.length v (((d.take hh).drop l)).length news ∧ RepL c.w false ts' news ((d.take hh).drop l) f2 := by
          rw [e1] at a3
          obtain ⟨r1, r2, r3, r4⟩ := a3
          obtain ⟨f2, g1, g2, g3⟩ := e8.ro.take l hh
          by_cases hcap : cap = l
          · have z1 : hh = l := by omega
            have z2 : (d.take hh).drop l = [] := by rw [List.drop_eq_nil_iff]; simp; omega
            rw [if_pos hcap] at r4
            refine ⟨[], (fun _ h => nomatch h), [], ?_, by rw [z2]; exact .nil⟩
            rw [r4, z2, z1]
            exact ⟨fun w' => by simp [Builtin.lenOf], fun w' _ => by simp [Builtin.firstCells, loadCells, loadCellsFrom], by simp, fun _ h => nomatch h⟩
          · rw [if_neg hcap] at r4
            simp only [Option.map_some, addr_add] at r4
            refine ⟨f2, g1, _, ?_, g2⟩
            rw [r4]
            refine holds_src (holds_drop (holds_take e2 _) _ ?_) g2.len (repL_one g2) (by simp; omega)
            rw [List.length_take, e8.len, e3]
            have h1 : l * ts'.length ≤ hh * ts'.length := Nat.mul_le_mul_right _ r1
            have h2 : hh * ts'.length ≤ len * ts'.length := Nat.mul_le_mul_right _ r2
            omega
        obtain ⟨f2, g1, news, g2, g3⟩ := hf2
        exact ⟨_, news, _, f2, g2, hden, rfl, g3, Took.read fun k hk => low_perm s hb k (g1 k hk)⟩
  · simp at h; subst h
    rw [hv] at ro ⊢
    exact ro .nil (fun _ h => nomatch h)
  · rename_i ts' ex
    simp only [Rd.val_bind, Rd.if_bind] at h
    obtain ⟨h1, h⟩ := h
    simp at h; subst h
    have := Ty.eqL h1
    subst this
    obtain ⟨fp, hr, hp⟩ := hv
    exact ro hr hp
  · simp at h

theorem appSrc_ok (s : Sim B c sl a) {sl0 : Nat → AV} {ts : List Ty} {x : AV} {v : Value} (hv : AVOk c x v) {q : E × Bool × List (Nat × Blk)} (h : (appSrc ts x).val sl0 c.hp = some q) :
    ∃ n news d fp, SrcIs P c.w ts.length v n news ∧ c.den q.1 = .sl d ∧ d.length = n ∧ RepL c.w q.2.1 ts news d fp ∧ Took c q.2.1 q.2.2 fp := by
  unfold appSrc at h
  split at h
  · rename_i ex
    simp only [Rd.val_bind, Rd.if_bind] at h
    obtain ⟨h1, h⟩ := h
    simp at h; subst h
    have := Ty.eqL h1
    subst this
    obtain ⟨str, e1, e2, e3⟩ := sc_str hv
    refine ⟨_, _, _, [], by rw [e1]; exact bytes_src, by rw [den1, e2]; rfl, by simp, bytes_rep _, Took.nil⟩
  · split at h
    · rename_i hns
      simp only [Rd.val_bind] at h
      replace h := bind_some h; obtain ⟨ex, hx, h⟩ := h
      simp at h; subst h
      obtain ⟨fp, hr⟩ := viewSl_ok s hx hv
      obtain ⟨d, hd⟩ := rep_isSl hr
      rw [hd] at hr
      obtain ⟨news, fp', a1, a2, a3⟩ := rep_src (P := P) hr
      exact ⟨_, news, d, [], a1, hd, rfl, noSl_ownL hns a2, Took.nil⟩
    · exact appSl_ok s hv h

/-! ### The run of an append -/

/-- Behind a row: another row, or a string's bytes. -/
def SrcType (P : Program) (t' : TypeId) : Prop := (∃ e, P.underlying t' = some (.slice e)) ∨ P.underlying t' = some .string

theorem srcType {t' : TypeId} (h : (match P.underlying t' with
    | some (.slice _) => true
    | some .string => true
    | _ => false) = true) : SrcType P t' := by
  split at h
  · exact .inl ⟨_, by assumption⟩
  · exact .inr (by assumption)
  · simp at h

theorem append_fit {t t' ty et : TypeId} {ts : List Ty} (he : elemOf P t = some (et, ts)) (ht' : SrcType P t') {types : Array TypeId} (h0 : types[0]? = some t) (h1 : types[1]? = some t')
    {b o' len cap n : Nat} {x : Value} {news : List Value} {w : World} {cur : Array Value} {T : TypeId} (hb : w.heap[b]? = some (.cells cur T (0, 0))) (hs : SrcIs P w ts.length x n news)
    (hn : len + n ≤ cap) (hfit : o' + cap * ts.length ≤ cur.size) :
    (Builtin.append_ types ty #[.slice (some ⟨b, o', none⟩) len cap, x]).run P w = .ok (.slice (some ⟨b, o', none⟩) (len + n) cap)
      (w.setRow b (cur.toList.take (o' + len * ts.length) ++ news ++ cur.toList.drop (o' + len * ts.length + news.length)).toArray) := by
  obtain ⟨hu, ht⟩ := elemOf_spec he
  have hle : (len + n) * ts.length ≤ cap * ts.length := Nat.mul_le_mul_right _ hn
  rw [Nat.add_mul] at hle
  have hst := run_storeCells_at P b (o' + len * ts.length) T news 0 cur w hb (by rw [hs.length]; omega) hs.one
  simp only [Nat.add_zero] at hst
  rcases ht' with ⟨e', ht'⟩ | ht' <;> simp [Builtin.append_, h0, h1, run_underlying hu, run_underlying ht', run_sizeOf ht, hs.len w, hn, hs.cells w rfl, addr_add, hst]

theorem append_none {t t' ty et : TypeId} {ts : List Ty} (he : elemOf P t = some (et, ts)) (ht' : SrcType P t') {types : Array TypeId} (h0 : types[0]? = some t) (h1 : types[1]? = some t')
    {x : Value} {news : List Value} {w : World} (hs : SrcIs P w ts.length x 0 news) :
    (Builtin.append_ types ty #[.slice none 0 0, x]).run P w = .ok (.slice none 0 0) w := by
  obtain ⟨hu, ht⟩ := elemOf_spec he
  rcases ht' with ⟨e', ht'⟩ | ht' <;> simp [Builtin.append_, h0, h1, run_underlying hu, run_underlying ht', run_sizeOf ht, hs.len w, hs.cells w rfl]

theorem append_grow {t t' ty et : TypeId} {ts : List Ty} (he : elemOf P t = some (et, ts)) (ht' : SrcType P t') {types : Array TypeId} (h0 : types[0]? = some t) (h1 : types[1]? = some t')
    {i : TypeInfo} {z : Value} (hi : P.info? et = some i) (hz : i.zero = some z) (hby : i.bytes ≤ 512) {p : Option Addr} {len cap n : Nat} {x : Value} {olds news : List Value} {w : World} (ho : SrcIs P w ts.length (.slice p len cap) len olds) (hs : SrcIs P w ts.length x n news)
    (hn : cap < len + n) (hroom : len + n ≤ 274877906944) :
    (Builtin.append_ types ty #[.slice p len cap, x]).run P w = .ok (.slice (some ⟨w.heap.size, 0, none⟩) (len + n) (grownCap w (len + n) cap et))
      (w.drew.alloc (.cells (olds ++ news ++ (Builtin.zeroCells z.cells (grownCap w (len + n) cap et - (len + n))).toList).toArray et)) := by
  obtain ⟨hu, ht⟩ := elemOf_spec he
  have hn' : ¬ (len + n ≤ cap) := by omega
  have hb1 : (len + n) * i.bytes ≤ 274877906944 * 512 := Nat.mul_le_mul hroom hby
  have hfit := growslice_fits (need := len + n) (old := cap) (bytes := i.bytes) hn (by omega)
  have h63' : ¬ (9223372036854775807 < ((len : Int) + (n : Int))) := by omega
  have h48' : ¬ (281474976710656 < Builtin.nextslicecap (len + n) cap * i.bytes) := by omega
  have hd : (w.drew).heap = w.heap := rfl
  rcases ht' with ⟨e', ht'⟩ | ht' <;> simp [Builtin.append_, h0, h1, run_underlying hu, run_underlying ht', run_sizeOf ht, typeInfo, zeroValue, hi, hz, hs.len w, hn', h63', h48', Question.forced, hs.cells w.drew rfl, ho.cells w.drew rfl, newRow, grownCap]
  all_goals
    congr 2
    apply Array.ext'
    simp [List.append_assoc]

theorem zeroCells_len {z : Array Value} {n : Nat} : (Builtin.zeroCells z n).toList.length = n * z.size := by simp [Builtin.zeroCells]

/-! ### A row's next header -/

/-- What may be said of the blocks that a row reads behind an append. -/
structure TookB (c : Ctx) (b : Nat) (own : Bool) (us : List (Nat × Blk)) (fp : List Nat) : Prop where
  used : Used c us
  from_ : ∀ k ∈ fp, Perm c.hp c.L k ∨ Src c (b :: us.map (·.1)) k
  own_ : own = true → fp.Nodup ∧ ∀ k ∈ fp, Src c (b :: us.map (·.1)) k

theorem perm_putB {b : Nat} {x : Blk} {us : List (Nat × Blk)} {l : Loc} {w' : World} (s : Sim B c sl a) (hu : Used c us) (hne : ∀ y ∈ us, y.1 ≠ b)
    (st : Step c (c.put b x us l w') (b :: us.map (·.1))) {k : Nat} (hlt : k < c.w.heap.size) (hk : Perm c.hp c.L k ∨ Src c (b :: us.map (·.1)) k) (hx : k ∉ hard x l) : Perm (c.put b x us l w').hp (c.put b x us l w').L k := by
  rcases hk with hk | ⟨b0, hb0, x0, h1, h2⟩
  · exact st.perm hlt hk
  · refine ⟨?_, s.apart _ _ h1 k h2⟩
    intro b' x' hx' hm
    by_cases hbb : b' = b
    · subst hbb
      rw [put_self hne] at hx'
      simp only [Option.some.injEq] at hx'
      subst hx'
      simp only [Ctx.put, if_true] at hm
      exact hx hm
    · by_cases hbu : ∃ z ∈ us, z.1 = b'
      · obtain ⟨z, hz, rfl⟩ := hbu
        rw [put_used hu hne hz] at hx'
        obtain ⟨g', u', ts', e', own', cl', live', q1, q2⟩ := hu z hz
        simp only [Option.some.injEq] at hx'
        subst hx'
        rw [q1] at hm
        exact nomatch hm
      · rw [put_other hbb fun z hz e => hbu ⟨z, hz, e⟩] at hx'
        have hL : (c.put b x us l w').L b' = c.L b' := by simp [Ctx.put, hbb]
        rw [hL] at hm
        refine s.disj b0 b' _ _ (fun e => ?_) h1 hx' k h2 (hard_acc (s.blks _ _ hx') k hm)
        subst e
        rcases List.mem_cons.1 hb0 with h | h
        · exact hbb h
        · obtain ⟨z, hz, e⟩ := List.mem_map.1 h
          exact hbu ⟨z, hz, e⟩

/-- A row in a new block, under a name that was a row's. -/
theorem growRow_ok (s : Sim B c sl a) {b g' u : Nat} {ts : List Ty} {er : E} {d : List (List D)} {own : Bool} {us : List (Nat × Blk)} {fp : List Nat} {w' : World} {need : List Need} {len cap : Nat} {vs rest : List Value} {t : TypeId}
    (hg' : g' = gen (c.hp b)) (hne : ∀ y ∈ us, y.1 ≠ b) (hd : c.den er = .sl d) (hrep : RepL c.w own ts vs d fp) (hlen : d.length = len) (hcap : len ≤ cap) (hcap' : cap < 9223372036854775808) (hroom : cap * ts.length ≤ vs.length + rest.length)
    (htook : TookB c b own us fp) (hw : w' = c.w.alloc (.cells (vs ++ rest).toArray t) ∨ w' = c.w.drew.alloc (.cells (vs ++ rest).toArray t))
    (hr : (execOp a.eval o).run P c.w = .ok (.value (.slice (some ⟨c.w.heap.size, 0, none⟩) len cap)) w') :
    Does P o a c { val := .row b g', upd := (b, .row g' u ts er own false true) :: us, need := need } := by
  subst hg'
  have hold : ∀ k, k < c.w.heap.size → w'.heap[k]? = c.w.heap[k]? := by
    intro k hk
    rcases hw with rfl | rfl
    · exact alloc_old hk
    · exact alloc_old (w := c.w.drew) hk
  have hnew : w'.heap[c.w.heap.size]? = some (.cells (vs ++ rest).toArray t (0, 0)) := by
    rcases hw with rfl | rfl
    · exact alloc_heap
    · exact alloc_heap (w := c.w.drew)
  have hsz : w'.heap.size = c.w.heap.size + 1 := by
    rcases hw with rfl | rfl
    · unfold World.alloc; simp only [Array.size_push]
    · unfold World.alloc; simp only [Array.size_push]; rfl
  have hlt := hrep.lt
  have htop : (⟨c.w.heap.size, .slice (some ⟨c.w.heap.size, 0, none⟩) len cap, fp⟩ : Loc).top = [c.w.heap.size] := rfl
  have hhard : ∀ k ∈ hard (.row (gen (c.hp b)) u ts er own false true) ⟨c.w.heap.size, .slice (some ⟨c.w.heap.size, 0, none⟩) len cap, fp⟩, k = c.w.heap.size := by
    intro k hk
    simpa only [hard, htop, Bool.false_eq_true, if_false, List.append_nil, List.mem_singleton] using hk
  refine does_value hr (eff_put (b := b) (l := ⟨c.w.heap.size, .slice (some ⟨c.w.heap.size, 0, none⟩) len cap, fp⟩) (w' := w') s htook.used hne
    (by omega) (by rcases hw with rfl | rfl <;> exact ⟨rfl, rfl, rfl⟩) (fun k hk _ => hold k hk) (by simp [gen]) (fun _ _ _ _ _ _ _ hg h => ?_) (fun _ _ _ h => by simp at h) (fun k hk => ?_) (fun k hk h => by have := hhard k hk; omega) (fun st => ?_) (fun st => ?_))
  · simp only [Blk.row.injEq] at h
    exact (gen_le_lt hg h.1.symm).elim
  · simp only [acc, htop] at hk
    rcases List.mem_append.1 hk with hk | hk
    · exact .inl (by rw [List.mem_singleton.1 hk]; exact Nat.le_refl _)
    · cases own with
      | false => exact nomatch hk
      | true => exact .inr ((htook.own_ rfl).2 k hk)
  · refine ⟨⟨d, by rw [st.den]; exact hd, .inr ⟨0, len, cap, vs, rfl, fun k hk => ?_, hlen, hcap, hcap', fun _ => ⟨_, _, hnew, by simp; omega⟩, by show c.w.heap.size < w'.heap.size; omega, hrep.alike fun k hk => hold k (hlt k hk)⟩⟩,
      (fun h => nomatch h), fun _ ho k hk => perm_putB s htook.used hne st (hlt k hk) (htook.from_ k hk) (fun hm => by have := hhard k hm; have := hlt k hk; omega), fun _ ho => ?_, fun h => nomatch h⟩
    · show w'.cell? _ = _
      rw [cell_of_row _ _ _ _ _ _ hnew]
      simp [List.getElem?_append_left hk]
    · subst ho
      obtain ⟨n1, n2⟩ := htook.own_ rfl
      rw [htop]
      exact List.nodup_cons.2 ⟨fun hm => by have := hlt _ hm; omega, n1⟩
  · refine ⟨⟨_, _, _, rfl⟩, ?_, fun u ts' e' own' clean' live' hx => by simp [Ctx.put]⟩
    rw [put_self hne]; simp [gen]

/-- A row that stays a nil slice. -/
theorem nilRow_ok (s : Sim B c sl a) {b g' u : Nat} {ts : List Ty} {er : E} {own : Bool} {us : List (Nat × Blk)} {need : List Need}
    (hg' : g' = gen (c.hp b)) (hne : ∀ y ∈ us, y.1 ≠ b) (hd : c.den er = .sl []) (hu : Used c us)
    (hr : (execOp a.eval o).run P c.w = .ok (.value (.slice none 0 0)) c.w) :
    Does P o a c { val := .row b g', upd := (b, .row g' u ts er own false true) :: us, need := need } := by
  subst hg'
  have htop : (⟨0, .slice none 0 0, []⟩ : Loc).top = [] := rfl
  refine does_value (c' := c.put b (.row (gen (c.hp b)) u ts er own false true) us ⟨0, .slice none 0 0, []⟩ c.w) hr (eff_put (b := b) (x := .row (gen (c.hp b)) u ts er own false true) (us := us) (l := ⟨0, .slice none 0 0, []⟩) (w' := c.w) s hu hne
    (Nat.le_refl _) ⟨rfl, rfl, rfl⟩ (fun k hk _ => rfl) (by simp [gen]) (fun _ _ _ _ _ _ _ hg h => ?_) (fun _ _ _ h => by simp at h) (fun k hk => ?_) (fun k hk h => ?_) (fun st => ?_) (fun st => ?_))
  · simp only [Blk.row.injEq] at h
    exact (gen_le_lt hg h.1.symm).elim
  · cases own <;> simp [acc, htop] at hk
  · simp [hard, htop] at hk
  · refine ⟨⟨[], by rw [st.den]; exact hd, .inl ⟨rfl, rfl, rfl⟩⟩, (fun h => nomatch h), (fun _ _ _ h => nomatch h), fun _ _ => by simp [htop], fun h => nomatch h⟩
  · refine ⟨⟨_, _, _, rfl⟩, ?_, fun u ts' e' own' clean' live' hx => by simp [Ctx.put]⟩
    rw [put_self hne]; simp [gen]

/-- A row that is written behind its end, in its own block. -/
theorem fitRow_ok (s : Sim B c sl a) {b g' u : Nat} {ts : List Ty} {er er' : E} {d : List (List D)} {own own' cl : Bool} {us : List (Nat × Blk)} {fp : List Nat} {need : List Need} {o' len len' cap : Nat} {vs : List Value} {cur new : Array Value} {T : TypeId}
    (hb : c.hp b = some (.row g' u ts er own cl true)) (hh : (c.L b).hdr = .slice (some ⟨(c.L b).blk, o', none⟩) len cap) (hcur : c.w.heap[(c.L b).blk]? = some (.cells cur T (0, 0)))
    (hne : ∀ y ∈ us, y.1 ≠ b) (hd : c.den er' = .sl d) (hrep : RepL c.w own' ts vs d fp) (hlen : d.length = len') (hcap : len' ≤ cap) (hcap' : cap < 9223372036854775808) (hsize : o' + cap * ts.length ≤ new.size)
    (hcells : ∀ k, k < vs.length → new[o' + k]? = vs[k]?) (htook : TookB c b own' us fp) (hfp : ∀ k ∈ fp, k ≠ (c.L b).blk)
    (hr : (execOp a.eval o).run P c.w = .ok (.value (.slice (some ⟨(c.L b).blk, o', none⟩) len' cap)) (c.w.setRow (c.L b).blk new)) :
    Does P o a c { val := .row b (g' + 1), upd := (b, .row (g' + 1) u ts er' own' false true) :: us, need := need } := by
  have hg1 : gen (c.hp b) = g' + 1 := by rw [hb]; rfl
  have htop0 : (c.L b).top = [(c.L b).blk] := Loc.top_some hh
  have blkHard : (c.L b).blk ∈ hard (.row g' u ts er own cl true) (c.L b) := by simp [hard, htop0]
  have blkAcc : (c.L b).blk ∈ acc (.row g' u ts er own cl true) (c.L b) := by simp [acc, htop0]
  obtain ⟨w', hw'⟩ : ∃ w', w' = c.w.setRow (c.L b).blk new := ⟨_, rfl⟩
  rw [← hw'] at hr
  have hnew : w'.heap[(c.L b).blk]? = some (.cells new T (0, 0)) := by rw [hw']; exact setRow_heap _ _ _ _ _ _ hcur
  have hoth : ∀ k, k ≠ (c.L b).blk → w'.heap[k]? = c.w.heap[k]? := fun k hk => by rw [hw']; exact setRow_other _ _ _ _ hk
  have hsz : w'.heap.size = c.w.heap.size := by rw [hw']; simp
  have hlt := hrep.lt
  have htop : (⟨(c.L b).blk, .slice (some ⟨(c.L b).blk, o', none⟩) len' cap, fp⟩ : Loc).top = [(c.L b).blk] := rfl
  have hhard : ∀ k ∈ hard (.row (g' + 1) u ts er' own' false true) ⟨(c.L b).blk, .slice (some ⟨(c.L b).blk, o', none⟩) len' cap, fp⟩, k = (c.L b).blk := by
    intro k hk
    simpa only [hard, htop, Bool.false_eq_true, if_false, List.append_nil, List.mem_singleton] using hk
  refine does_value hr (eff_put (b := b) (l := ⟨(c.L b).blk, .slice (some ⟨(c.L b).blk, o', none⟩) len' cap, fp⟩) (w' := w') s htook.used hne
    (by omega) (by rw [hw']; exact ⟨rfl, rfl, rfl⟩) (fun k hk h => hoth k fun e => h _ hb (by rw [e]; exact blkHard)) (by rw [hb]; simp [gen]) (fun _ _ _ _ _ _ _ hg h => ?_) (fun _ _ _ h => by simp at h) (fun k hk => ?_) (fun k hk h => ⟨_, hb, by rw [hhard k hk]; exact blkHard⟩) (fun st => ?_) (fun st => ?_))
  · simp only [Blk.row.injEq] at h
    rw [hg1] at hg
    omega
  · simp only [acc, htop] at hk
    rcases List.mem_append.1 hk with hk | hk
    · exact .inr ⟨b, List.mem_cons_self .., _, hb, by rw [List.mem_singleton.1 hk]; exact blkAcc⟩
    · cases own' with
      | false => exact nomatch hk
      | true => exact .inr ((htook.own_ rfl).2 k hk)
  · refine ⟨⟨d, by rw [st.den]; exact hd, .inr ⟨o', len', cap, vs, rfl, fun k hk => ?_, hlen, hcap, hcap', fun _ => ⟨_, _, hnew, hsize⟩, by show (c.L b).blk < w'.heap.size; rw [hsz]; exact lt_of_get hcur, hrep.alike fun k hk => hoth k (hfp k hk)⟩⟩,
      (fun h => nomatch h), fun _ ho k hk => perm_putB s htook.used hne st (hlt k hk) (htook.from_ k hk) (fun hm => hfp k hk (hhard k hm)), fun _ ho => ?_, fun h => nomatch h⟩
    · show w'.cell? _ = _
      rw [cell_of_row _ _ _ _ _ _ hnew, hcells k hk]
    · subst ho
      rw [htop]
      exact List.nodup_cons.2 ⟨fun hm => hfp _ hm rfl, (htook.own_ rfl).1⟩
  · refine ⟨⟨_, _, _, rfl⟩, ?_, fun u ts' e' own' clean' live' hx => by simp [Ctx.put]⟩
    rw [put_self hne]; simp [gen]

theorem den_cat {x y : E} {d dx : List (List D)} (h1 : c.den x = .sl d) (h2 : c.den y = .sl dx) : c.den (.app .cat [x, y]) = .sl (d ++ dx) := by rw [den2, h1, h2]; rfl

theorem grown_lt {w : World} {need old : Nat} {et : TypeId} (h : need ≤ 274877906944) : grownCap w need old et < 9223372036854775808 := by
  have := grownCap_le_maxLen w need old et (by simp [maxLen]; omega)
  simp [maxLen] at this
  omega

theorem append_builtin {types : Array TypeId} {ty : TypeId} {args : Array Value} {cs : Array Bool} {w w' : World} {v : Value} (h : (Builtin.append_ types ty args).run P w = .ok v w') : (builtin .append types ty cs args).run P w = .ok (.value v) w' := by
  simp [builtin, h]

theorem app_get {α : Type} {l v vs r : List α} {o p : Nat} (hp : vs.length = p) (hl : o + p ≤ l.length) (hold : ∀ k, k < vs.length → l[o + k]? = vs[k]?) (k : Nat) (hk : k < vs.length + v.length) :
    (l.take (o + p) ++ v ++ r)[o + k]? = (vs ++ v)[k]? := by
  have l1 : (l.take (o + p)).length = o + p := by rw [List.length_take]; omega
  rw [List.append_assoc]
  by_cases h1 : k < vs.length
  · rw [List.getElem?_append_left (by omega : o + k < (l.take (o + p)).length), List.getElem?_append_left h1, List.getElem?_take_of_lt (by omega), hold k h1]
  · rw [List.getElem?_append_right (by omega : (l.take (o + p)).length ≤ o + k), List.getElem?_append_right (by omega : vs.length ≤ k), l1, List.getElem?_append_left (by omega)]
    congr 1
    omega

/-- What is put behind a row. -/
theorem appendRow_ok (s : Sim B c sl a) {t t' et : TypeId} {ts : List Ty} (he : elemOf P t = some (et, ts)) (ht' : SrcType P t') (hby : P.bytesOf et ≤ 512) (hz : (zeroOf P et).isSome = true) {cc : Call} (ho : o.op = .call cc) (hcc : cc.callee = .builtin .append)
    (h0 : cc.argTypes[0]? = some t) (h1 : cc.argTypes[1]? = some t') {vx : Value} {hdr : Value} (hargs : cc.args.map a.eval = #[hdr, vx])
    {b g' u : Nat} {er ex : E} {own cl : Bool} (hb : c.hp b = some (.row g' u ts er own cl true)) (hhdr : hdr = (c.L b).hdr) {n : Nat} {news : List Value} {dx : List (List D)} {fx : List Nat} {o2 : Bool} {us : List (Nat × Blk)}
    (hs : SrcIs P c.w ts.length vx n news) (hdx : c.den ex = .sl dx) (hdl : dx.length = n) (hrx : RepL c.w o2 ts news dx fx) (htx : Took c o2 us fx) (hne : ∀ y ∈ us, y.1 ≠ b)
    (hroom : NeedOk pre c (roomLen (.len (.app .cat [er, ex])))) :
    Does P o a c { val := .row b (g' + 1), upd := (b, .row (g' + 1) u ts (.app .cat [er, ex]) (own && o2) false true) :: us, need := [roomLen (.len (.app .cat [er, ex]))] } := by
  obtain ⟨⟨d, hd, hro⟩, hb2, hb3, hb4, hb5⟩ := s.blks _ _ hb
  have hcat := den_cat hd hdx
  have hlen := need_room (den_len hcat) hroom
  rw [List.length_append] at hlen
  have hg1 : g' + 1 = gen (c.hp b) := by rw [hb]; rfl
  obtain ⟨z, hz⟩ := Option.isSome_iff_exists.1 hz
  obtain ⟨ts', i, zv, q1, q2, q3, q4, q5, q6, q7, q8⟩ := zeroOf_ok (c := c) hz
  obtain ⟨hu, ht⟩ := elemOf_spec he
  rw [ht] at q1
  simp only [Option.some.injEq] at q1
  subst q1
  rw [bytesOf_some q2] at hby
  have hzs : zv.cells.size = ts.length := by
    have := avs_len q5
    simpa [q6] using this
  rcases hro with ⟨r1, rfl, r3⟩ | ⟨o', len, cap, vs, e1, e2, e3, e4, e5, e6, e7, e8⟩
  · -- a nil slice so far
    rw [r1] at hhdr
    subst hhdr
    by_cases hn : n = 0
    · subst hn
      have hdx0 : dx = [] := List.eq_nil_of_length_eq_zero hdl
      subst hdx0
      refine nilRow_ok s hg1 hne hcat htx.used (builtin_run ho hcc fun cs => ?_)
      rw [hargs]
      exact append_builtin (append_none he ht' h0 h1 hs)
    · have hb' : TookB c b (own && o2) us fx := ⟨htx.used, fun k hk => (htx.from_ k hk).imp id fun h => h.mono fun x hx => List.mem_cons_of_mem _ hx, fun hoo => by
        simp only [Bool.and_eq_true] at hoo
        exact ⟨(htx.own_ hoo.2).1, fun k hk => ((htx.own_ hoo.2).2 k hk).mono fun x hx => List.mem_cons_of_mem _ hx⟩⟩
      have hgr := append_grow (P := P) (t := t) (t' := t') (ty := o.type) he ht' (types := cc.argTypes) h0 h1 q2 q3 hby (p := none) (len := 0) (cap := 0) (olds := []) ⟨fun w' => by simp [Builtin.lenOf], fun w' _ => by simp [Builtin.firstCells], by simp, fun _ h => nomatch h⟩ hs (by omega) (by simp at hlen; omega)
      simp only [Nat.zero_add, List.nil_append] at hgr
      have hge := grownCap_ge c.w n 0 et
      refine growRow_ok (d := dx) (len := n) (cap := grownCap c.w n 0 et) (vs := news) (rest := (Builtin.zeroCells zv.cells (grownCap c.w n 0 et - n)).toList) (t := et) s hg1 hne (by simpa using hcat) (hrx.weak fun h => by simp only [Bool.and_eq_true] at h; exact h.2) hdl hge (grown_lt (by simp at hlen; omega)) ?_ hb' (.inr rfl) (builtin_run ho hcc fun cs => ?_)
      · rw [zeroCells_len, hs.length, hzs, ← Nat.add_mul]
        exact Nat.mul_le_mul_right _ (by omega)
      · rw [hargs]
        exact append_builtin hgr
  · rw [e1] at hhdr
    subst hhdr
    have htop : (c.L b).top = [(c.L b).blk] := Loc.top_some e1
    have blkHard : (c.L b).blk ∈ hard (.row g' u ts er own cl true) (c.L b) := by simp [hard, htop]
    have blkAcc : (c.L b).blk ∈ acc (.row g' u ts er own cl true) (c.L b) := by simp [acc, htop]
    have hfold : ∀ k ∈ (c.L b).fp, k ≠ (c.L b).blk := by
      intro k hk e
      subst e
      cases own with
      | true =>
        have := hb4 rfl rfl
        rw [htop] at this
        exact (List.nodup_cons.1 this).1 hk
      | false => exact (hb3 rfl rfl _ hk).1 b _ hb blkHard
    have hfx : ∀ k ∈ fx, k ≠ (c.L b).blk := by
      intro k hk e
      subst e
      rcases htx.from_ _ hk with h | ⟨b0, hb0, x0, k1, k2⟩
      · exact h.1 b _ hb blkHard
      · obtain ⟨y, hy, rfl⟩ := List.mem_map.1 hb0
        exact s.disj y.1 b _ _ (hne y hy) k1 hb _ k2 blkAcc
    have hrep : RepL c.w (own && o2) ts (vs ++ news) (d ++ dx) ((c.L b).fp ++ fx) :=
      (e8.weak fun h => by simp only [Bool.and_eq_true] at h; exact h.1).append (hrx.weak fun h => by simp only [Bool.and_eq_true] at h; exact h.2)
    have hsrcOld : own = true → ∀ k ∈ (c.L b).fp, Src c [b] k := fun hoo k hk => ⟨b, List.mem_singleton.2 rfl, _, hb, by subst hoo; simp [acc]; exact .inr hk⟩
    have htook : TookB c b (own && o2) us ((c.L b).fp ++ fx) := by
      refine ⟨htx.used, fun k hk => ?_, fun hoo => ?_⟩
      · rcases List.mem_append.1 hk with hk | hk
        · cases own with
          | false => exact .inl (hb3 rfl rfl k hk)
          | true => exact .inr ((hsrcOld rfl k hk).mono fun x hx => by rw [List.mem_singleton.1 hx]; exact List.mem_cons_self ..)
        · exact (htx.from_ k hk).imp id fun h => h.mono fun x hx => List.mem_cons_of_mem _ hx
      · simp only [Bool.and_eq_true] at hoo
        obtain ⟨rfl, rfl⟩ := hoo
        obtain ⟨n1, n2⟩ := htx.own_ rfl
        have n3 := (List.nodup_append.1 (hb4 rfl rfl)).2.1
        refine ⟨List.nodup_append.2 ⟨n3, n1, fun x hx y hy e => ?_⟩, fun k hk => ?_⟩
        · subst e
          refine src_apart s (fun p hp q hq => ?_) (hsrcOld rfl x hx) (n2 x hy)
          obtain ⟨y, hy', rfl⟩ := List.mem_map.1 hq
          rw [List.mem_singleton.1 hp]
          exact (hne y hy').symm
        · rcases List.mem_append.1 hk with hk | hk
          · exact (hsrcOld rfl k hk).mono fun x hx => by rw [List.mem_singleton.1 hx]; exact List.mem_cons_self ..
          · exact (n2 k hk).mono fun x hx => List.mem_cons_of_mem _ hx
    have hvl := e8.len
    by_cases hfit : len + n ≤ cap
    · obtain ⟨cur, T, c1, c2⟩ := e6 rfl
      have hrun := append_fit (P := P) (ty := o.type) he ht' (types := cc.argTypes) h0 h1 c1 hs hfit c2
      have hnl := hs.length
      have hlc : (len + n) * ts.length ≤ cap * ts.length := Nat.mul_le_mul_right _ hfit
      rw [Nat.add_mul] at hlc
      rw [e3] at hvl
      refine fitRow_ok (vs := vs ++ news) (len := len) (len' := len + n) (cap := cap) (new := (cur.toList.take (o' + len * ts.length) ++ news ++ cur.toList.drop (o' + len * ts.length + news.length)).toArray) s hb e1 c1 hne hcat hrep (by rw [List.length_append, e3, hdl]) hfit e5 ?_ (fun k hk => ?_) htook
        (fun k hk => by rcases List.mem_append.1 hk with hk | hk; exact hfold k hk; exact hfx k hk) (builtin_run ho hcc fun cs => ?_)
      · simp only [List.size_toArray, List.length_append, List.length_take, List.length_drop, Array.length_toList]
        omega
      · rw [List.length_append] at hk
        rw [List.getElem?_toArray]
        exact app_get (l := cur.toList) hvl (by have : cur.toList.length = cur.size := Array.length_toList; omega) (fun k hk => by
          have := e2 k hk
          rw [cell_of_row _ _ _ _ _ _ c1] at this
          rw [Array.getElem?_toList]
          exact this) k hk
      · rw [hargs]
        exact append_builtin hrun
    · have hgr := append_grow (P := P) (ty := o.type) he ht' (types := cc.argTypes) h0 h1 q2 q3 hby (p := some ⟨(c.L b).blk, o', none⟩) (len := len) (cap := cap) (olds := vs) (holds_src e2 (by rw [hvl, e3]) (repL_one e8) rfl) hs (by omega) (by omega)
      have hge := grownCap_ge c.w (len + n) cap et
      refine growRow_ok (d := d ++ dx) (len := len + n) (cap := grownCap c.w (len + n) cap et) (vs := vs ++ news) (rest := (Builtin.zeroCells zv.cells (grownCap c.w (len + n) cap et - (len + n))).toList) (t := et) s hg1 hne hcat hrep (by rw [List.length_append, e3, hdl]) hge (grown_lt (by omega)) ?_ htook (.inr rfl) (builtin_run ho hcc fun cs => ?_)
      · rw [zeroCells_len, hzs, List.length_append, hvl, e3, hs.length, ← Nat.add_mul, ← Nat.add_mul]
        exact Nat.mul_le_mul_right _ (by omega)
      · rw [hargs]
        exact append_builtin hgr

/-- What is put behind nothing. -/
theorem appendNil_ok (s : Sim B c sl a) {t t' et : TypeId} {ts : List Ty} (he : elemOf P t = some (et, ts)) (ht' : SrcType P t') (hby : P.bytesOf et ≤ 512) (hz : (zeroOf P et).isSome = true) {cc : Call} (ho : o.op = .call cc) (hcc : cc.callee = .builtin .append)
    (h0 : cc.argTypes[0]? = some t) (h1 : cc.argTypes[1]? = some t') {vx : Value} (hargs : cc.args.map a.eval = #[.slice none 0 0, vx])
    {b : Nat} {ex : E} {n : Nat} {news : List Value} {dx : List (List D)} {fx : List Nat} {o2 : Bool} {us : List (Nat × Blk)}
    (hs : SrcIs P c.w ts.length vx n news) (hdx : c.den ex = .sl dx) (hdl : dx.length = n) (hrx : RepL c.w o2 ts news dx fx) (htx : Took c o2 us fx) (hne : ∀ y ∈ us, y.1 ≠ b)
    (hroom : NeedOk pre c (roomLen (.len ex))) :
    Does P o a c { val := .row b (gen (c.hp b)), upd := (b, .row (gen (c.hp b)) 0 ts ex o2 false true) :: us, need := [roomLen (.len ex)] } := by
  have hlen := need_room (den_len hdx) hroom
  obtain ⟨z, hz⟩ := Option.isSome_iff_exists.1 hz
  obtain ⟨ts', i, zv, q1, q2, q3, q4, q5, q6, q7, q8⟩ := zeroOf_ok (c := c) hz
  obtain ⟨hu, ht⟩ := elemOf_spec he
  rw [ht] at q1
  simp only [Option.some.injEq] at q1
  subst q1
  rw [bytesOf_some q2] at hby
  have hzs : zv.cells.size = ts.length := by
    have := avs_len q5
    simpa [q6] using this
  by_cases hn : n = 0
  · subst hn
    have hdx0 : dx = [] := List.eq_nil_of_length_eq_zero hdl
    subst hdx0
    refine nilRow_ok s rfl hne hdx htx.used (builtin_run ho hcc fun cs => ?_)
    rw [hargs]
    exact append_builtin (append_none he ht' h0 h1 hs)
  · have hb' : TookB c b o2 us fx := ⟨htx.used, fun k hk => (htx.from_ k hk).imp id fun h => h.mono fun x hx => List.mem_cons_of_mem _ hx, fun hoo =>
      ⟨(htx.own_ hoo).1, fun k hk => ((htx.own_ hoo).2 k hk).mono fun x hx => List.mem_cons_of_mem _ hx⟩⟩
    have hgr := append_grow (P := P) (t := t) (t' := t') (ty := o.type) he ht' (types := cc.argTypes) h0 h1 q2 q3 hby (p := none) (len := 0) (cap := 0) (olds := []) ⟨fun w' => by simp [Builtin.lenOf], fun w' _ => by simp [Builtin.firstCells], by simp, fun _ h => nomatch h⟩ hs (by omega) (by omega)
    simp only [Nat.zero_add, List.nil_append] at hgr
    have hge := grownCap_ge c.w n 0 et
    refine growRow_ok (d := dx) (len := n) (cap := grownCap c.w n 0 et) (vs := news) (rest := (Builtin.zeroCells zv.cells (grownCap c.w n 0 et - n)).toList) (t := et) s rfl hne hdx hrx hdl hge (grown_lt (by omega)) ?_ hb' (.inr rfl) (builtin_run ho hcc fun cs => ?_)
    · rw [zeroCells_len, hs.length, hzs, ← Nat.add_mul]
      exact Nat.mul_le_mul_right _ (by omega)
    · rw [hargs]
      exact append_builtin hgr

theorem take_drop_mid {α : Type} (m : List α) {p q r : Nat} (h1 : p ≤ q) (h2 : p ≤ r) : ((m.drop p).take (r - p)).drop (q - p) = (m.take r).drop q := by
  apply List.ext_getElem?
  intro i
  rw [List.getElem?_drop, List.getElem?_drop, List.getElem?_take, List.getElem?_take, List.getElem?_drop]
  by_cases h : q - p + i < r - p
  · rw [if_pos h, if_pos (by omega), show p + (q - p + i) = q + i from by omega]
  · rw [if_neg h, if_neg (by omega)]

/-- Elements in the midst of a row are dropped. -/
theorem appendPart_ok (s : Sim B c sl a) {t t' et : TypeId} {ts : List Ty} (he : elemOf P t = some (et, ts)) (ht' : SrcType P t') {cc : Call} (ho : o.op = .call cc) (hcc : cc.callee = .builtin .append)
    (h0 : cc.argTypes[0]? = some t) (h1 : cc.argTypes[1]? = some t') {vs0 vx : Value} (hargs : cc.args.map a.eval = #[vs0, vx])
    {b g' u : Nat} {er lo hi lo' hi' : E} {own cl : Bool} (hb : c.hp b = some (.row g' u ts er own cl true)) (hv0 : AVOk c (.part b g' lo hi) vs0) (hvx : AVOk c (.part b g' lo' hi') vx) (hlo : lo = .int 0)
    (hn : NeedOk pre c (.e (.le hi lo'))) :
    Does P o a c { val := .row b (g' + 1), upd := [(b, .row (g' + 1) u ts (.app .cat [.app .slice [er, .int 0, hi], .app .slice [er, lo', hi']]) own false true)], need := [.e (.le hi lo')] } := by
  subst hlo
  obtain ⟨⟨d, hd, hro⟩, hb2, hb3, hb4, hb5⟩ := s.blks _ _ hb
  have hg1 : g' + 1 = gen (c.hp b) := by rw [hb]; rfl
  obtain ⟨l0, k, p1, p2, p3⟩ := hv0.2.2 _ _ _ _ _ _ hb
  rw [denI] at p1
  simp only [D.int.injEq] at p1
  have hl0 : l0 = 0 := by omega
  subst hl0
  obtain ⟨l', k', p4, p5, p6⟩ := hvx.2.2 _ _ _ _ _ _ hb
  have hle : k ≤ l' := by
    have := need_le p2 p4 hn
    omega
  have hcat : c.den (.app .cat [.app .slice [er, .int 0, hi], .app .slice [er, lo', hi']]) = .sl ((d.take k) ++ (d.take k').drop l') := by
    have h2 : c.den (.app .slice [er, .int 0, hi]) = .sl (d.take k) := by rw [den_slice (lo := .int 0) (l := 0) rfl p2, hd]; simp
    have h3 : c.den (.app .slice [er, lo', hi']) = .sl ((d.take k').drop l') := by rw [den_slice p4 p5, hd]; rfl
    exact den_cat h2 h3
  rcases hro with ⟨r1, rfl, r3⟩ | ⟨o', len, cap, vs, e1, e2, e3, e4, e5, e6, e7, e8⟩
  · rw [r1] at p3 p6
    obtain ⟨a1, a2, a3, a4⟩ := p3
    obtain ⟨b1, b2, b3, b4⟩ := p6
    have z1 : k = 0 := by omega
    have z2 : k' = 0 := by omega
    have z3 : l' = 0 := by omega
    subst z1; subst z2; subst z3
    simp at a4 b4
    subst a4; subst b4
    refine nilRow_ok s hg1 (fun _ h => nomatch h) (by simpa using hcat) (fun _ h => nomatch h) (builtin_run ho hcc fun cs => ?_)
    rw [hargs]
    exact append_builtin (append_none he ht' h0 h1 (news := []) ⟨fun w' => by simp [Builtin.lenOf], fun w' _ => by simp [Builtin.firstCells], by simp, fun _ h => nomatch h⟩)
  · rw [e1] at p3 p6
    obtain ⟨a1, a2, a3, a4⟩ := p3
    obtain ⟨b1, b2, b3, b4⟩ := p6
    have htop : (c.L b).top = [(c.L b).blk] := Loc.top_some e1
    have blkHard : (c.L b).blk ∈ hard (.row g' u ts er own cl true) (c.L b) := by simp [hard, htop]
    have hv : vs0 = .slice (some ⟨(c.L b).blk, o', none⟩) k cap := by
      rw [a4]
      split
      · rename_i h; simp [h]
      · simp [addr_add]
    have hvl := e8.len
    -- the elements that move down
    obtain ⟨f, f2, hff, r1, r2⟩ := e8.split k
    obtain ⟨g2, hg2, r3, hsub⟩ := r2.take (l' - k) (k' - k)
    have hdrop : ∀ {α : Type} (m : List α) (sz : Nat), ((m.drop (k * sz)).take ((k' - k) * sz)).drop ((l' - k) * sz) = (m.take (k' * sz)).drop (l' * sz) := by
      intro α m sz
      rw [Nat.sub_mul, Nat.sub_mul]
      exact take_drop_mid m (Nat.mul_le_mul_right _ hle) (Nat.mul_le_mul_right _ (by omega))
    have hdd := hdrop d 1
    simp only [Nat.mul_one] at hdd
    rw [hdrop vs ts.length, hdd] at r3
    have hnl : ((vs.take (k' * ts.length)).drop (l' * ts.length)).length = (k' - l') * ts.length := by
      rw [r3.len]
      congr 1
      simp only [List.length_drop, List.length_take]
      omega
    have hsrc : SrcIs P c.w ts.length vx (k' - l') ((vs.take (k' * ts.length)).drop (l' * ts.length)) := by
      by_cases hcap : cap = l'
      · have z : k' - l' = 0 := by omega
        rw [if_pos hcap] at b4
        rw [b4, z]
        have hnil : (vs.take (k' * ts.length)).drop (l' * ts.length) = [] := List.eq_nil_of_length_eq_zero (by rw [hnl, z, Nat.zero_mul])
        rw [hnil]
        exact ⟨fun w' => by simp [Builtin.lenOf], fun w' _ => by simp [Builtin.firstCells, loadCells, loadCellsFrom], by simp, fun _ h => nomatch h⟩
      · rw [if_neg hcap] at b4
        simp only [Option.map_some, addr_add] at b4
        rw [b4]
        refine holds_src (holds_drop (holds_take e2 _) _ ?_) hnl (repL_one r3) rfl
        rw [List.length_take, hvl, e3]
        have h1 : l' * ts.length ≤ k' * ts.length := Nat.mul_le_mul_right _ b1
        have h2 : k' * ts.length ≤ len * ts.length := Nat.mul_le_mul_right _ b2
        omega
    obtain ⟨cur, T, c1, c2⟩ := e6 rfl
    have hfit : k + (k' - l') ≤ cap := by omega
    have hrun := append_fit (P := P) (ty := o.type) he ht' (types := cc.argTypes) h0 h1 c1 hsrc hfit c2
    have hfold : ∀ k ∈ (c.L b).fp, k ≠ (c.L b).blk := by
      intro k hk e
      subst e
      cases own with
      | true =>
        have := hb4 rfl rfl
        rw [htop] at this
        exact (List.nodup_cons.1 this).1 hk
      | false => exact (hb3 rfl rfl _ hk).1 b _ hb blkHard
    have hsub2 : (f ++ g2).Sublist (c.L b).fp := by rw [hff]; exact List.Sublist.append (List.Sublist.refl _) hsub
    have htook : TookB c b own [] (f ++ g2) := by
      refine ⟨(fun _ h => nomatch h), fun k hk => ?_, fun hoo => ?_⟩
      · cases own with
        | false => exact .inl (hb3 rfl rfl k (hsub2.subset hk))
        | true => exact .inr ⟨b, List.mem_cons_self .., _, hb, by simp [acc]; exact .inr (hsub2.subset hk)⟩
      · subst hoo
        exact ⟨hsub2.nodup (List.nodup_append.1 (hb4 rfl rfl)).2.1, fun k hk => ⟨b, List.mem_cons_self .., _, hb, by simp [acc]; exact .inr (hsub2.subset hk)⟩⟩
    have hrep := r1.append r3
    have hk1 : k * ts.length ≤ len * ts.length := Nat.mul_le_mul_right _ a2
    have hlc : (k + (k' - l')) * ts.length ≤ cap * ts.length := Nat.mul_le_mul_right _ hfit
    rw [Nat.add_mul] at hlc
    rw [e3] at hvl
    refine fitRow_ok (vs := vs.take (k * ts.length) ++ (vs.take (k' * ts.length)).drop (l' * ts.length)) (len := len) (len' := k + (k' - l')) (cap := cap)
      (new := (cur.toList.take (o' + k * ts.length) ++ (vs.take (k' * ts.length)).drop (l' * ts.length) ++ cur.toList.drop (o' + k * ts.length + ((vs.take (k' * ts.length)).drop (l' * ts.length)).length)).toArray) s hb e1 c1 (fun _ h => nomatch h) hcat hrep
      (by simp only [List.length_append, List.length_drop, List.length_take]; omega) hfit e5 ?_ (fun q hq => ?_) htook (fun q hq => hfold q (hsub2.subset hq)) (builtin_run ho hcc fun cs => ?_)
    · have hnl2 := hnl
      simp only [List.length_drop, List.length_take] at hnl2
      simp only [List.size_toArray, List.length_append, List.length_take, List.length_drop, Array.length_toList]
      omega
    · rw [List.length_append] at hq
      rw [List.getElem?_toArray]
      have hcl : cur.toList.length = cur.size := Array.length_toList
      exact app_get (l := cur.toList) (by rw [List.length_take]; omega) (by omega) (fun q hq => by
        rw [List.length_take] at hq
        have := e2 q (by omega)
        rw [cell_of_row _ _ _ _ _ _ c1] at this
        rw [Array.getElem?_toList, List.getElem?_take_of_lt (by omega)]
        exact this) q hq
    · rw [hargs, hv]
      exact append_builtin hrun

theorem acc_lt (s : Sim B c sl a) {b : Nat} {x : Blk} (hx : c.hp b = some x) : ∀ k ∈ acc x (c.L b), k < c.w.heap.size := by
  intro k hk
  have hok := s.blks b x hx
  cases x with
  | gone g => exact nomatch hk
  | box g cells => obtain ⟨vs, T, h1, _⟩ := hok; simp [acc] at hk; rw [hk]; exact lt_of_get h1
  | row g u ts e own clean live =>
    cases live with
    | false => exact nomatch hk
    | true =>
      refine (row_rep hok).lt k ?_
      simp only [acc] at hk
      rcases List.mem_append.1 hk with hk | hk
      · exact List.mem_append_left _ hk
      · cases own with
        | false => exact nomatch hk
        | true => exact List.mem_append_right _ hk

/-- A row of rows is read only, from here on: a slice in it has been written behind its end. -/
theorem underEff (s : Sim B c sl a) {b g' u : Nat} {tsb ts : List Ty} {ex e' : E} {w' : World} {v : Value} {fpv : List Nat} {need : List Need} {d : List (List D)}
    (hb : c.hp b = some (.row g' u tsb ex true true true)) (hd : c.den ex = .sl d) {o' len cap : Nat} {vs : List Value} (e1 : (c.L b).hdr = .slice (some ⟨(c.L b).blk, o', none⟩) len cap)
    (hsize : c.w.heap.size ≤ w'.heap.size) (hfr : w'.os = c.w.os ∧ w'.tape = c.w.tape ∧ w'.output = c.w.output) (hmem : ∀ k, k < c.w.heap.size → k ∉ (c.L b).fp → w'.heap[k]? = c.w.heap[k]?)
    (hold : Holds c.w (c.L b).blk o' vs) (hl : d.length = len) (hlc : len ≤ cap) (hc63 : cap < 9223372036854775808) (hop : Opn c.w (c.L b).blk (o' + cap * tsb.length)) (hrep : RepL w' true tsb vs d (c.L b).fp) (hv : Rep w' false (.sl ts) v (c.den e') fpv) (hfp : ∀ k ∈ fpv, k ∈ (c.L b).fp ∨ c.w.heap.size ≤ k) :
    EffOk c { val := .ro ts e', upd := [(b, .row g' u tsb ex false false true)], need := need } (c.put b (.row g' u tsb ex false false true) [] (c.L b) w') v := by
  have htop : (c.L b).top = [(c.L b).blk] := Loc.top_some e1
  have hnd := (s.blks _ _ hb).2.2.2.1 rfl rfl
  rw [htop, List.singleton_append] at hnd
  obtain ⟨hnt, hnf⟩ := List.nodup_cons.1 hnd
  have blkAcc : (c.L b).blk ∈ acc (.row g' u tsb ex true true true) (c.L b) := by simp [acc, htop]
  have hblt := acc_lt s hb _ blkAcc
  have hstill := hmem _ hblt hnt
  have perm : Step c (c.put b (.row g' u tsb ex false false true) [] (c.L b) w') (b :: ([] : List (Nat × Blk)).map (·.1)) → ∀ k, (k ∈ (c.L b).fp ∨ c.w.heap.size ≤ k) → Perm (c.put b (.row g' u tsb ex false false true) [] (c.L b) w').hp (c.put b (.row g' u tsb ex false false true) [] (c.L b) w').L k := by
    intro st k hk
    refine ⟨?_, ?_⟩
    rotate_left
    · rcases hk with h | h
      · exact s.apart b _ hb k (by simp [acc]; exact .inr h)
      · intro hX
        have := s.old k hX
        omega
    intro b' x' hx' hm
    by_cases hbb : b' = b
    · subst hbb
      rw [put_self (by simp)] at hx'
      simp only [Option.some.injEq] at hx'
      subst hx'
      simp only [Ctx.put, if_true, hard, htop, Bool.false_eq_true, if_false, List.append_nil, List.mem_singleton] at hm
      subst hm
      rcases hk with h | h
      · exact hnt h
      · omega
    · rw [put_other hbb (by simp)] at hx'
      simp only [Ctx.put, if_neg hbb] at hm
      have ha := hard_acc (s.blks _ _ hx') k hm
      rcases hk with h | h
      · exact s.disj b b' _ _ (Ne.symm hbb) hb hx' k (by simp [acc]; exact .inr h) ha
      · have := acc_lt s hx' k ha
        omega
  refine eff_put (b := b) (us := []) (l := c.L b) (w' := w') s (fun _ h => nomatch h) (fun _ h => nomatch h) hsize hfr (fun k hk h => hmem k hk fun hm => h _ hb (by simp [hard, hm])) (by rw [hb]; exact Nat.le_refl _)
    (fun g2 u2 ts2 e2' own2 cl2 live2 hg2 h => ?_) (fun _ _ _ h => by simp at h) (fun k hk => ?_) (fun k hk _ => ⟨_, hb, ?_⟩) (fun st => ?_) (fun st => ⟨fpv, by rw [st.den]; exact hv, fun k hk => perm st k (hfp k hk)⟩)
  · simp only [Blk.row.injEq] at h
    obtain ⟨rfl, rfl, rfl, rfl, rfl, rfl, rfl⟩ := h
    refine ⟨u, ex, true, true, true, hb, rfl, rfl, fun _ => rfl, fun _ => ⟨Nat.le_refl _, fun hu n2 m2 ts' v' hm hcc => ?_⟩⟩
    obtain ⟨o3, l3, c3, y1, y2, y3⟩ := hcc
    refine ⟨o3, l3, c3, ?_, y2, ?_⟩
    · simpa [Ctx.put] using y1
    · simp only [Ctx.put, if_true]
      rw [cell_of_heap hstill]
      exact y3
  · exact .inr ⟨b, List.mem_cons_self .., _, hb, by simp only [acc, Bool.false_eq_true, if_false, List.append_nil] at hk; simp only [acc]; exact List.mem_append_left _ hk⟩
  · simp only [hard, Bool.false_eq_true, if_false, List.append_nil] at hk
    simp only [hard]
    exact List.mem_append_left _ hk
  · exact ⟨⟨d, by rw [st.den]; exact hd, .inr ⟨o', len, cap, vs, e1, hold.alike hstill, hl, hlc, hc63, fun _ => hop.alike hstill, by show (c.L b).blk < w'.heap.size; omega, hrep.ro⟩⟩, (fun h => nomatch h), (fun _ _ k hk => perm st k (.inl hk)), (fun _ h => nomatch h), fun h => nomatch h⟩

theorem set_same {l : List D} {j : Nat} {d : D} (h : l[j]? = some d) : l.set j d = l := by
  rw [← modify_set h (fun x => x)]
  apply List.ext_getElem?
  intro i
  rw [List.getElem?_modify]
  simp

/-- Behind a slice in a row of rows. -/
theorem appendUnder_ok (s : Sim B c sl a) {t t' et : TypeId} {ts : List Ty} (he : elemOf P t = some (et, ts)) (ht' : SrcType P t') (hby : P.bytesOf et ≤ 512) (hz : (zeroOf P et).isSome = true) {cc : Call} (ho : o.op = .call cc) (hcc : cc.callee = .builtin .append)
    (h0 : cc.argTypes[0]? = some t) (h1 : cc.argTypes[1]? = some t') {vs0 vx : Value} (hargs : cc.args.map a.eval = #[vs0, vx]) (hns : noSl ts = true)
    {b g' u j : Nat} {i : E} {tsb : List Ty} {er ex : E} (hb : c.hp b = some (.row g' u tsb er true true true)) (hv0 : AVOk c (.under b g' u i j ts) vs0) {n : Nat} {news : List Value} {dx : List (List D)}
    (hs : SrcIs P c.w ts.length vx n news) (hdx : c.den ex = .sl dx) (hdl : dx.length = n) (hrx : RepL c.w true ts news dx [])
    (hroom : NeedOk pre c (roomLen (.len (.app .cat [.cell er i j, ex])))) :
    Does P o a c { val := .ro ts (.app .cat [.cell er i j, ex]), upd := [(b, .row g' u tsb er false false true)], need := [roomLen (.len (.app .cat [.cell er i j, ex]))] } := by
  obtain ⟨_, z0⟩ := hv0.2.2 _ _ _ _ _ hb
  obtain ⟨z1, m, d1, z2⟩ := z0 rfl
  have hbk := s.blks _ _ hb
  obtain ⟨⟨d, hd, hro⟩, hb2, hb3, hb4, hb5⟩ := hbk
  rcases hro with ⟨q1, _⟩ | ⟨o', len, cap, vs, e1, e2, e3, e4, e5, e6, e7, e8⟩
  · obtain ⟨_, _, _, q2, _⟩ := z2
    rw [q1] at q2; simp at q2
  have htop : (c.L b).top = [(c.L b).blk] := Loc.top_some e1
  have hnd := hb4 rfl rfl
  rw [htop, List.singleton_append] at hnd
  obtain ⟨hnt, hnf⟩ := List.nodup_cons.1 hnd
  have hjlt : j < tsb.length := by
    rcases Nat.lt_or_ge j tsb.length with h | h
    · exact h
    · simp [List.getElem?_eq_none h] at z1
  have hcell := cell_is (own := true) (cl := true) (live := true) (g := g') (u := u) (ex := er) (d := d) (fp := (c.L b).fp) e1 e2 (by rw [e8.len, e3]) hjlt z2
  have hm : m < d.length := by
    obtain ⟨_, _, _, y1, y2, _⟩ := z2
    rw [e1] at y1
    simp only [Value.slice.injEq] at y1
    omega
  obtain ⟨p, f0, q, v0, d0, dn, hfp, a1, a2, a2', a3, a4⟩ := e8.focus hm z1
  rw [hcell] at a1
  simp only [Option.some.injEq] at a1
  subst a1
  have hsame : (d.modify m fun x => x.set j d0) = d := by
    apply List.ext_getElem?
    intro i'
    rw [List.getElem?_modify]
    split
    · subst_vars
      rw [a2]
      simp [set_same a2']
    · simp
  have hden0 : c.den (.cell er i j) = d0 := by
    rw [den_cell d1, hd]
    simp [List.getD_eq_getElem?_getD, a2, a2']
  obtain ⟨l0, hl0⟩ := rep_isSl a3
  subst hl0
  have hcat := den_cat hden0 hdx
  have hlen := need_room (den_len hcat) hroom
  rw [List.length_append] at hlen
  obtain ⟨z, hz⟩ := Option.isSome_iff_exists.1 hz
  obtain ⟨ts', i', zv, r1, r2, r3, r4, r5, r6, r7, r8⟩ := zeroOf_ok (c := c) hz
  obtain ⟨hu, ht⟩ := elemOf_spec he
  rw [ht] at r1
  simp only [Option.some.injEq] at r1
  subst r1
  rw [bytesOf_some r2] at hby
  have hzs : zv.cells.size = ts.length := by
    have := avs_len r5
    simpa [r6] using this
  have hnl := hs.length
  -- in a new block
  have grow : ∀ (pp : Option Addr) (cp : Nat) (olds : List Value) (lo : Nat), l0.length = lo → vs0 = .slice pp lo cp → SrcIs P c.w ts.length (.slice pp lo cp) lo olds → RepL c.w true ts olds l0 [] → cp < lo + n →
      Does P o a c { val := .ro ts (.app .cat [.cell er i j, ex]), upd := [(b, .row g' u tsb er false false true)], need := [roomLen (.len (.app .cat [.cell er i j, ex]))] } := by
    intro pp cp olds lo hlo hv hso hro hn
    have hgr := append_grow (P := P) (t := t) (t' := t') (ty := o.type) he ht' (types := cc.argTypes) h0 h1 r2 r3 hby hso hs hn (by omega)
    have hge := grownCap_ge c.w (lo + n) cp et
    obtain ⟨w', hw'⟩ : ∃ w', w' = c.w.drew.alloc (.cells (olds ++ news ++ (Builtin.zeroCells zv.cells (grownCap c.w (lo + n) cp et - (lo + n))).toList).toArray et) := ⟨_, rfl⟩
    rw [← hw'] at hgr
    have hold : ∀ k, k < c.w.heap.size → w'.heap[k]? = c.w.heap[k]? := fun k hk => by rw [hw']; exact alloc_old (w := c.w.drew) hk
    have hnew : w'.heap[c.w.heap.size]? = some (.cells (olds ++ news ++ (Builtin.zeroCells zv.cells (grownCap c.w (lo + n) cp et - (lo + n))).toList).toArray et (0, 0)) := by rw [hw']; exact alloc_heap (w := c.w.drew)
    have hsz : w'.heap.size = c.w.heap.size + 1 := by
      rw [hw']; unfold World.alloc; simp only [Array.size_push]; rfl
    refine does_value (c' := c.put b (.row g' u tsb er false false true) [] (c.L b) w') (builtin_run ho hcc fun cs => by rw [hargs, hv]; exact append_builtin hgr) (underEff (fpv := [c.w.heap.size]) s hb hd e1 (by omega) (by rw [hw']; exact ⟨rfl, rfl, rfl⟩) (fun k hk _ => hold k hk) e2 e3 e4 e5 (e6 rfl) (e8.alike fun k hk => hold k (e8.lt k hk)) ?_ (fun k hk => .inr (by rw [List.mem_singleton.1 hk]; exact Nat.le_refl _)))
    rw [hcat]
    have hrl : RepL c.w false ts (olds ++ news) (l0 ++ dx) [] := (hro.append hrx).ro
    refine .sl (vs := olds ++ news) (fun k hk => ?_) (by rw [List.length_append]; omega) hge (grown_lt (by omega)) (by simp) (by omega) (hrl.alike (by simp [Alike]))
    rw [cell_of_row _ _ _ _ _ _ hnew, Nat.zero_add, List.getElem?_toArray, List.getElem?_append_left hk]
  cases a3 with
  | nil =>
    by_cases hn : n = 0
    · subst hn
      have hdx0 : dx = [] := List.eq_nil_of_length_eq_zero hdl
      subst hdx0
      refine does_value (builtin_run ho hcc fun cs => by rw [hargs]; exact append_builtin (append_none he ht' h0 h1 hs)) (c' := c.put b (.row g' u tsb er false false true) [] (c.L b) c.w)
        (underEff (fpv := []) s hb hd e1 (Nat.le_refl _) ⟨rfl, rfl, rfl⟩ (fun k hk _ => rfl) e2 e3 e4 e5 (e6 rfl) e8 (by rw [hcat]; exact .nil) (fun k hk => nomatch hk))
    · exact grow none 0 [] 0 rfl rfl ⟨fun w' => by simp [Builtin.lenOf], fun w' _ => by simp [Builtin.firstCells], by simp, fun _ h => nomatch h⟩ .nil (by omega)
  | emp h _ => exact nomatch h
  | sl k1 k2 k3 k4 k5 k6 k7 =>
    rename_i vb vo vlen vcap vsb f
    have hf0 : f = [] := by
      have := noSl_fpL hns k7
      exact this
    subst hf0
    by_cases hfit : vlen + n ≤ vcap
    · obtain ⟨cur, T, c1, c2⟩ := k5 rfl
      have hrun := append_fit (P := P) (ty := o.type) he ht' (types := cc.argTypes) h0 h1 c1 hs hfit c2
      have hvl := k7.len
      rw [k2] at hvl
      have hlc : (vlen + n) * ts.length ≤ vcap * ts.length := Nat.mul_le_mul_right _ hfit
      rw [Nat.add_mul] at hlc
      obtain ⟨w', hw'⟩ : ∃ w', w' = c.w.setRow vb (cur.toList.take (vo + vlen * ts.length) ++ news ++ cur.toList.drop (vo + vlen * ts.length + news.length)).toArray := ⟨_, rfl⟩
      rw [← hw'] at hrun
      have hheap : w'.heap[vb]? = some (.cells (cur.toList.take (vo + vlen * ts.length) ++ news ++ cur.toList.drop (vo + vlen * ts.length + news.length)).toArray T (0, 0)) := by rw [hw']; exact setRow_heap _ _ _ _ _ _ c1
      have hoth : ∀ k, k ≠ vb → w'.heap[k]? = c.w.heap[k]? := fun k hk => by rw [hw']; exact setRow_other _ _ _ _ hk
      have hsz : w'.heap.size = c.w.heap.size := by rw [hw']; simp
      have hvb : vb ∈ (c.L b).fp := by rw [hfp]; simp
      have hget : ∀ k, k < vsb.length + news.length → (cur.toList.take (vo + vlen * ts.length) ++ news ++ cur.toList.drop (vo + vlen * ts.length + news.length))[vo + k]? = (vsb ++ news)[k]? := fun k hk => by
        have hcl : cur.toList.length = cur.size := Array.length_toList
        exact app_get (l := cur.toList) hvl (by omega) (fun q hq => by
          have := k1 q hq
          rw [cell_of_row _ _ _ _ _ _ c1] at this
          rw [Array.getElem?_toList]
          exact this) k hk
      have hopn : Opn w' vb (vo + vcap * ts.length) := by
        refine ⟨_, T, hheap, ?_⟩
        simp only [List.size_toArray, List.length_append, List.length_take, List.length_drop, Array.length_toList]
        omega
      have hrep0 : Rep w' true (.sl ts) (.slice (some ⟨vb, vo, none⟩) vlen vcap) (.sl l0) [vb] := by
        refine .sl (vs := vsb) (fun k hk => ?_) k2 k3 k4 (fun _ => hopn) (by omega) (k7.alike (by simp [Alike]))
        rw [cell_of_row _ _ _ _ _ _ hheap, List.getElem?_toArray, hget k (by omega), List.getElem?_append_left hk]
      have hal : ∀ {r : List Nat}, (∀ k ∈ r, k ≠ vb) → Alike c.w w' r := fun h k hk => hoth k (h k hk)
      rw [hfp] at hnf
      obtain ⟨nd1, nd2, nd3⟩ := List.nodup_append.1 hnf
      obtain ⟨nd4, nd5, nd6⟩ := List.nodup_append.1 nd1
      have hL := a4 w' _ (hal fun k hk e => nd6 k hk vb (List.mem_cons_self ..) e) (hal fun k hk e => nd3 vb (by simp) k hk e.symm) hrep0
      rw [hsame] at hL
      refine does_value (builtin_run ho hcc fun cs => by rw [hargs]; exact append_builtin hrun) (underEff (fpv := [vb]) s hb hd e1 (by omega) (by rw [hw']; exact ⟨rfl, rfl, rfl⟩) (fun k hk hm => hoth k fun e => hm (e ▸ hvb)) e2 e3 e4 e5 (e6 rfl) hL ?_ (fun k hk => .inl (by rw [List.mem_singleton.1 hk]; exact hvb)))
      rw [hcat]
      have hrl : RepL c.w false ts (vsb ++ news) (l0 ++ dx) [] := (k7.append hrx).ro
      refine .sl (vs := vsb ++ news) (fun k hk => ?_) (by rw [List.length_append]; omega) hfit k4 (by simp) (by omega) (hrl.alike (by simp [Alike]))
      rw [cell_of_row _ _ _ _ _ _ hheap, List.getElem?_toArray, hget k (by rw [List.length_append] at hk; exact hk)]
    · exact grow (some ⟨vb, vo, none⟩) vcap vsb vlen k2 rfl (holds_src k1 (by rw [k7.len, k2]) (repL_one k7) rfl) k7 (by omega)

theorem append_ok (s : Sim B c sl a) (hg : (c.den g).b = true) {cc : Call} (ho : o.op = .call cc) (hcc : cc.callee = .builtin .append)
    (h : (opEff P sigs clean g o).val sl c.hp = some e) (hn : ∀ n ∈ e.need, NeedOk pre c n) : Does P o a c e := by
  simp only [opEff, ho, hcc, Rd.val_bind] at h
  replace h := bind_some h; obtain ⟨vs, hv, h⟩ := h
  have hvs := mapRd_ok (α := Unit) s hg hv
  simp only [Rd.val_opt, Rd.val_bind] at h
  replace h := bind_some h; obtain ⟨t, h0, h⟩ := h
  replace h := bind_some h; obtain ⟨t', h1, h⟩ := h
  simp only [Rd.if_bind, Bool.and_eq_true] at h
  obtain ⟨⟨_, hty⟩, h⟩ := h
  have ht' := srcType hty
  split at h
  case h_2 => simp at h
  rename_i as ax
  obtain ⟨v0, v1, hvv⟩ : ∃ v0 v1, cc.args.toList.map a.eval = [v0, v1] := by
    match h' : cc.args.toList.map a.eval, hvs with
    | [v0, v1], _ => exact ⟨v0, v1, rfl⟩
    | [], hvs => exact hvs.elim
    | [_], hvs => exact hvs.2.elim
    | _ :: _ :: _ :: _, hvs => exact hvs.2.2.elim
  rw [hvv] at hvs
  have hargs : cc.args.map a.eval = #[v0, v1] := by
    apply Array.ext'
    rw [Array.toList_map, hvv]
  obtain ⟨w0, w1, _⟩ := hvs
  simp only [appendEff, Rd.val_bind, Rd.val_opt] at h
  replace h := bind_some h; obtain ⟨⟨et, ts⟩, he, h⟩ := h
  simp only [Rd.if_bind, Rd.val_bind, Bool.and_eq_true, decide_eq_true_eq] at h
  obtain ⟨⟨hby, hz⟩, h⟩ := h
  split at h
  · simp only [Rd.val_bind, Rd.val_blk, Option.bind_some] at h
    replace h := bind_some h; obtain ⟨⟨ex, o2, us⟩, hx, h⟩ := h
    simp only [Rd.val_bind, Rd.if_bind, List.all_eq_true, Bool.not_eq_true', beq_eq_false_iff_ne, Rd.val_blk, Option.bind_some] at h
    obtain ⟨hne, h⟩ := h
    simp at h; subst h
    obtain ⟨n, news, dx, fx, hs, hdx, hdl, hrx, htx⟩ := appSrc_ok (P := P) s w1 hx
    rw [w0] at hargs
    exact appendNil_ok (pre := pre) s he ht' hby hz ho hcc h0 h1 hargs hs hdx hdl hrx htx hne (hn _ (by simp))
  · rename_i b g'
    simp only [Rd.val_bind, Rd.val_blk, Option.bind_some] at h
    split at h
    case h_2 => simp at h
    rename_i g'' u ts' er own cl hb
    simp only [Rd.val_bind, Rd.if_bind, Bool.and_eq_true, beq_iff_eq] at h
    obtain ⟨⟨rfl, hts⟩, h⟩ := h
    replace h := bind_some h; obtain ⟨⟨ex, o2, us⟩, hx, h⟩ := h
    simp only [Rd.val_bind, Rd.if_bind, List.all_eq_true, Bool.not_eq_true', beq_eq_false_iff_ne] at h
    obtain ⟨hne, h⟩ := h
    simp at h; subst h
    obtain ⟨n, news, dx, fx, hs, hdx, hdl, hrx, htx⟩ := appSrc_ok (P := P) s w1 hx
    have := Ty.eqL hts
    subst this
    exact appendRow_ok (pre := pre) s he ht' hby hz ho hcc h0 h1 hargs hb (w0.2.2 _ _ _ _ _ _ hb) hs hdx hdl hrx htx hne (hn _ (by simp))
  · rename_i b g' lo hi
    split at h
    case h_2 => simp at h
    rename_i b' g2 lo' hi'
    simp only [Rd.val_bind, Rd.val_blk, Option.bind_some, Rd.if_bind, Bool.and_eq_true, beq_iff_eq] at h
    obtain ⟨⟨⟨rfl, rfl⟩, hlo⟩, h⟩ := h
    split at h
    case h_2 => simp at h
    rename_i g'' u ts' er own cl hb
    simp only [Rd.val_bind, Rd.if_bind, Bool.and_eq_true, beq_iff_eq] at h
    obtain ⟨⟨⟨rfl, hts⟩, _⟩, h⟩ := h
    simp at h; subst h
    have := Ty.eqL hts
    subst this
    exact appendPart_ok (pre := pre) s he ht' ho hcc h0 h1 hargs hb w0 w1 (E.eq_of_beq hlo) (hn _ (by simp))
  · rename_i b g' u i j ts0
    simp only [Rd.val_bind, Rd.val_blk, Option.bind_some] at h
    split at h
    case h_2 => simp at h
    rename_i g'' u' tsb er hb
    simp only [Rd.val_bind, Rd.if_bind, Bool.and_eq_true, beq_iff_eq] at h
    obtain ⟨⟨⟨⟨rfl, rfl⟩, hts⟩, hns⟩, h⟩ := h
    replace h := bind_some h; obtain ⟨ex, hx, h⟩ := h
    simp at h; subst h
    have := Ty.eqL hts
    subst this
    obtain ⟨fp, hr⟩ := viewSl_ok s hx w1
    obtain ⟨dx, hdx⟩ := rep_isSl hr
    rw [hdx] at hr
    obtain ⟨news, fp', a1, a2, a3⟩ := rep_src (P := P) hr
    exact appendUnder_ok (pre := pre) s he ht' hby hz ho hcc h0 h1 hargs hns hb w0 a1 hdx rfl (noSl_ownL hns a2) (hn _ (by simp))
  · simp at h

end
end Go.Sx
