/-
  The machine, part W: what a function hands back.
-/
import Derived.Test.YtnglgoloeabbeaaMV
namespace Go.Sx
open Go Go.RowKit
set_option linter.unusedSimpArgs false
set_option linter.unusedVariables false

def wNames : List Use → List Nat
  | [] => []
  | .whole b :: r => b :: wNames r
  | .view _ :: r => wNames r
def vNames : List Use → List Nat
  | [] => []
  | .whole _ :: r => vNames r
  | .view b :: r => b :: vNames r
theorem wNames_append : ∀ {l m : List Use}, wNames (l ++ m) = wNames l ++ wNames m
  | [], _ => rfl
  | .whole b :: r, m => by simp [wNames, wNames_append]
  | .view b :: r, m => by simp [wNames, wNames_append]
theorem vNames_append : ∀ {l m : List Use}, vNames (l ++ m) = vNames l ++ vNames m
  | [], _ => rfl
  | .whole b :: r, m => by simp [vNames, vNames_append]
  | .view b :: r, m => by simp [vNames, vNames_append]

/-- What is handed out is handed out once, and what is looked at is not. -/
structure UInv (l : List Use) : Prop where
  nodup : (wNames l).Nodup
  apart : ∀ x ∈ wNames l, x ∉ vNames l

theorem UInv.nil : UInv [] := ⟨List.nodup_nil, fun _ h => nomatch h⟩

theorem free_whole {b : Nat} : ∀ {l : List Use}, Use.free (.whole b) l = true → b ∉ wNames l ∧ b ∉ vNames l
  | [], _ => ⟨(fun h => nomatch h), fun h => nomatch h⟩
  | u :: r, h => by
    simp only [Use.free, List.all_cons, Bool.and_eq_true] at h
    obtain ⟨h1, h2⟩ := free_whole (l := r) h.2
    have hne : b ≠ u.name := by simpa [Use.ok, Use.name] using h.1
    cases u with
    | whole x => exact ⟨fun hm => (List.mem_cons.1 hm).elim (fun e => hne e) h1, h2⟩
    | view x => exact ⟨h1, fun hm => (List.mem_cons.1 hm).elim (fun e => hne e) h2⟩
theorem free_view {b : Nat} : ∀ {l : List Use}, Use.free (.view b) l = true → b ∉ wNames l
  | [], _ => fun h => nomatch h
  | u :: r, h => by
    simp only [Use.free, List.all_cons, Bool.and_eq_true] at h
    have h2 := free_view (l := r) h.2
    cases u with
    | whole x =>
      have hne : b ≠ x := by simpa [Use.ok, Use.name] using h.1
      exact fun hm => (List.mem_cons.1 hm).elim (fun e => hne e) h2
    | view x => exact h2
theorem UInv.whole {b : Nat} {l : List Use} (h : UInv l) (hf : Use.free (.whole b) l = true) : UInv (.whole b :: l) := by
  obtain ⟨h1, h2⟩ := free_whole hf
  refine ⟨List.nodup_cons.2 ⟨h1, h.nodup⟩, fun x hx => ?_⟩
  rcases List.mem_cons.1 hx with rfl | hx
  · exact h2
  · exact h.apart x hx
theorem UInv.view {b : Nat} {l : List Use} (h : UInv l) (hf : Use.free (.view b) l = true) : UInv (.view b :: l) := by
  have h1 := free_view hf
  refine ⟨h.nodup, fun x hx hm => ?_⟩
  rcases List.mem_cons.1 hm with rfl | hm
  · exact h1 hx
  · exact h.apart x hx hm

theorem viewUses_ok : ∀ {ns : List Nat} {used used' : List Use}, viewUses ns used = some used' → UInv used → UInv used' ∧ ∃ new, used' = new ++ used ∧ wNames new = [] ∧ ∀ b ∈ ns, b ∈ vNames new
  | [], used, used', h, hi => by
    simp [viewUses] at h; subst h
    exact ⟨hi, [], rfl, rfl, fun _ h => nomatch h⟩
  | b :: ns, used, used', h, hi => by
    simp only [viewUses] at h
    split at h
    · rename_i hf
      obtain ⟨r1, new, r2, r3, r4⟩ := viewUses_ok h (hi.view hf)
      refine ⟨r1, new ++ [.view b], by rw [r2]; simp, by rw [wNames_append, r3]; rfl, fun x hx => ?_⟩
      rw [vNames_append]
      rcases List.mem_cons.1 hx with rfl | hx
      · exact List.mem_append_right _ (List.mem_cons_self ..)
      · exact List.mem_append_left _ (r4 x hx)
    · simp at h

section
variable {P : Program} {c : Ctx} {sl : Nat → AV} {a : Act} {B : Base}

/-- What is handed out of these names: owned; writable; read. -/
structure Handed (c : Ctx) (W V : List Nat) (H O R : List Nat) : Prop where
  own : ∀ k ∈ O, Src c W k
  hard : ∀ k ∈ H, Hsrc c W k
  nodup : O.Nodup
  read : ∀ k ∈ R, Perm c.hp c.L k ∨ Src c (W ++ V) k
  apart : ∀ k ∈ R, k ∉ H

theorem Handed.nil {W V : List Nat} : Handed c W V [] [] [] := ⟨(fun _ h => nomatch h), (fun _ h => nomatch h), List.nodup_nil, (fun _ h => nomatch h), fun _ h => nomatch h⟩

theorem perm_hsrc {W : List Nat} {k : Nat} (h : Perm c.hp c.L k) (h' : Hsrc c W k) : False := by
  obtain ⟨b, _, x, h1, h2⟩ := h'
  exact h.1 b x h1 h2

theorem Handed.append (s : Sim B c sl a) {W1 V1 W2 V2 H1 O1 R1 H2 O2 R2 : List Nat} (h1 : Handed c W1 V1 H1 O1 R1) (h2 : Handed c W2 V2 H2 O2 R2) (hd : ∀ x ∈ W1, x ∉ W2 ∧ x ∉ V2) (hd' : ∀ x ∈ W2, x ∉ V1) : Handed c (W2 ++ W1) (V2 ++ V1) (H1 ++ H2) (O1 ++ O2) (R1 ++ R2) where
  own := fun k hk => by
    rcases List.mem_append.1 hk with hk | hk
    · exact (h1.own k hk).mono fun b hb => List.mem_append_right _ hb
    · exact (h2.own k hk).mono fun b hb => List.mem_append_left _ hb
  hard := fun k hk => by
    rcases List.mem_append.1 hk with hk | hk
    · exact (h1.hard k hk).mono fun b hb => List.mem_append_right _ hb
    · exact (h2.hard k hk).mono fun b hb => List.mem_append_left _ hb
  nodup := List.nodup_append.2 ⟨h1.nodup, h2.nodup, fun x hx y hy e => src_apart s (fun p hp q hq e' => (hd p hp).1 (e' ▸ hq)) (h1.own x hx) (e ▸ h2.own y hy)⟩
  read := fun k hk => by
    rcases List.mem_append.1 hk with hk | hk
    · refine (h1.read k hk).imp id fun h => h.mono fun b hb => ?_
      rcases List.mem_append.1 hb with hb | hb
      · exact List.mem_append_left _ (List.mem_append_right _ hb)
      · exact List.mem_append_right _ (List.mem_append_right _ hb)
    · refine (h2.read k hk).imp id fun h => h.mono fun b hb => ?_
      rcases List.mem_append.1 hb with hb | hb
      · exact List.mem_append_left _ (List.mem_append_left _ hb)
      · exact List.mem_append_right _ (List.mem_append_left _ hb)
  apart := fun k hk hm => by
    have cross : ∀ {W V W' : List Nat}, (Perm c.hp c.L k ∨ Src c (W ++ V) k) → (∀ x ∈ W ++ V, x ∉ W') → Hsrc c W' k → False := by
      intro W V W' hr hne hh
      rcases hr with hp | hs
      · exact perm_hsrc hp hh
      · exact src_apart s (fun p hp q hq e' => hne p hp (e' ▸ hq)) hs (hh.src s)
    rcases List.mem_append.1 hk with hk | hk <;> rcases List.mem_append.1 hm with hm | hm
    · exact h1.apart k hk hm
    · refine cross (h1.read k hk) (fun x hx hx' => ?_) (h2.hard k hm)
      rcases List.mem_append.1 hx with hx | hx
      · exact (hd x hx).1 hx'
      · exact hd' x hx' hx
    · refine cross (h2.read k hk) (fun x hx hx' => ?_) (h1.hard k hm)
      rcases List.mem_append.1 hx with hx | hx
      · exact (hd x hx').1 hx
      · exact (hd x hx').2 hx
    · exact h2.apart k hk hm

theorem UInv.split {new used : List Use} (h : UInv (new ++ used)) : (∀ x ∈ wNames new, x ∉ wNames used ∧ x ∉ vNames used) ∧ (∀ x ∈ wNames used, x ∉ vNames new) ∧ UInv used := by
  obtain ⟨h1, h2⟩ := h
  rw [wNames_append] at h1 h2
  rw [vNames_append] at h2
  obtain ⟨n1, n2, n3⟩ := List.nodup_append.1 h1
  refine ⟨fun x hx => ⟨fun hm => n3 x hx x hm rfl, fun hm => h2 x (List.mem_append_left _ hx) (List.mem_append_right _ hm)⟩, fun x hx hm => h2 x (List.mem_append_right _ hx) (List.mem_append_left _ hm), n2, fun x hx hm => h2 x (List.mem_append_right _ hx) (List.mem_append_right _ hm)⟩

theorem UInv.pre {x y used : List Use} (h : UInv (x ++ (y ++ used))) : UInv (x ++ y) := by
  obtain ⟨h1, h2⟩ := h
  simp only [wNames_append, vNames_append, List.mem_append] at h1 h2
  refine ⟨?_, fun q hq hm => ?_⟩
  · rw [wNames_append]
    rw [← List.append_assoc] at h1
    exact (List.nodup_append.1 h1).1
  · simp only [wNames_append, vNames_append, List.mem_append] at hq hm
    exact h2 q (hq.imp id .inl) (hm.imp id .inl)

theorem pushE_some {e : E} {x : Option (List E × List Use)} {q : List E × List Use} (h : pushE e x = some q) : ∃ es, x = some (es, q.2) ∧ q.1 = e :: es := by
  unfold pushE at h
  split at h
  · simp only [Option.some.injEq] at h
    subst h
    exact ⟨_, rfl, rfl⟩
  · simp at h

theorem handed_row (s : Sim B c sl a) {b g u : Nat} {ts : List Ty} {e : E} {cl : Bool} (hb : c.hp b = some (.row g u ts e true cl true)) : Handed c [b] [] (topOf (c.L b).hdr) ((c.L b).top ++ (c.L b).fp) [] := by
  have h := own1_row (hd := false) s hb (fun h => nomatch h)
  exact ⟨h.src, h.top, h.nodup, (fun _ h => nomatch h), fun _ h => nomatch h⟩

/-- A row that is handed out, whose elements are but read. -/
theorem handed_top (s : Sim B c sl a) {b g u : Nat} {ts : List Ty} {e : E} {own cl : Bool} (hb : c.hp b = some (.row g u ts e own cl true)) : TopRep c.w ts (c.L b).hdr (c.den e) (c.L b).fp ∧ Handed c [b] [] (topOf (c.L b).hdr) (topOf (c.L b).hdr) (c.L b).fp := by
  obtain ⟨⟨d, h0, h1⟩, h2, h3, h4, h5⟩ := s.blks _ _ hb
  have htop : topOf (c.L b).hdr = (c.L b).top := by
    rcases h1 with ⟨e1, _⟩ | ⟨o', len, cap, vs, e1, _⟩ <;> simp [Loc.top, topOf, e1]
  refine ⟨?_, ?_⟩
  · rw [h0]
    rcases h1 with ⟨e1, e2, e3⟩ | ⟨o', len, cap, vs, e1, e2, e3, e4, e5, e6, e7, e8⟩
    · rw [e1, e2, e3]; exact .inl ⟨rfl, rfl, rfl⟩
    · exact .inr ⟨_, o', len, cap, vs, d, e1, rfl, e2, e3, e4, e5, e6 rfl, e7, e8.ro⟩
  · rw [htop]
    refine ⟨fun k hk => ⟨b, List.mem_singleton.2 rfl, _, hb, by simp [acc, hk]⟩, fun k hk => ⟨b, List.mem_singleton.2 rfl, _, hb, by simp [hard, hk]⟩, ?_, fun k hk => ?_, fun k hk hm => ?_⟩
    · unfold Loc.top; split <;> simp
    · cases own with
      | false => exact .inl (h3 rfl rfl k hk)
      | true => exact .inr ⟨b, by simp, _, hb, by simp [acc, hk]⟩
    · cases own with
      | false => exact (h3 rfl rfl k hk).1 b _ hb (by simp [hard, hm])
      | true => exact (List.nodup_append.1 (h4 rfl rfl)).2.2 k hm k hk rfl

theorem retCells_ok (s : Sim B c sl a) : ∀ {ts : List (Ty × Rm)} {xs : List AV} {vs : List Value} {i : Nat} {used : List Use} {q : List E × List Use}, AVsOk c xs vs → retCells c.hp i ts xs used = some q → UInv used →
    UInv q.2 ∧ ∃ new H O R, q.2 = new ++ used ∧ CellsOut c.w ts vs (c.dens q.1) H O R ∧ Handed c (wNames new) (vNames new) H O R ∧ ∀ (j : Nat) (t : List Ty), ts[j]? = some (Ty.sl t, Rm.kept) → vs[j]? = some (c.given (i + j))
  | [], xs, vs, i, used, q, hv, h, hu => by
    cases xs with
    | cons => simp [retCells] at h
    | nil =>
      simp [retCells] at h; subst h
      cases vs with
      | cons => exact hv.elim
      | nil => exact ⟨hu, [], [], [], [], rfl, .nil, Handed.nil, fun j t hj => by simp at hj⟩
  | (t, m) :: ts, xs, vs, i, used, q, hv, h, hu => by
    cases xs with
    | nil => cases t <;> cases m <;> simp [retCells] at h
    | cons x xs =>
      cases vs with
      | nil => exact hv.elim
      | cons v vs =>
        -- one cell, then the rest
        have join : ∀ {e : E} {new1 : List Use} {H1 O1 R1 : List Nat}, pushE e (retCells c.hp (i + 1) ts xs (new1 ++ used)) = some q → UInv (new1 ++ used) → Handed c (wNames new1) (vNames new1) H1 O1 R1 → (∀ t0, t = .sl t0 → m = .kept → v = c.given i) →
            (∀ {ds : List D} {H O R : List Nat}, CellsOut c.w ts vs ds H O R → CellsOut c.w ((t, m) :: ts) (v :: vs) (c.den e :: ds) (H1 ++ H) (O1 ++ O) (R1 ++ R)) →
            UInv q.2 ∧ ∃ new H O R, q.2 = new ++ used ∧ CellsOut c.w ((t, m) :: ts) (v :: vs) (c.dens q.1) H O R ∧ Handed c (wNames new) (vNames new) H O R ∧ ∀ (j : Nat) (t0 : List Ty), ((t, m) :: ts)[j]? = some (Ty.sl t0, Rm.kept) → (v :: vs)[j]? = some (c.given (i + j)) := by
          intro e new1 H1 O1 R1 hp hi hh hk hcons
          obtain ⟨es, h1, h2⟩ := pushE_some hp
          obtain ⟨r1, new, H, O, R, r2, r3, r4, r5⟩ := retCells_ok s hv.2 h1 hi
          simp only at r1 r2 r3
          refine ⟨r1, new ++ new1, H1 ++ H, O1 ++ O, R1 ++ R, by rw [r2, List.append_assoc], ?_, ?_, fun j t0 hj => ?_⟩
          · rw [h2, dens_cons]; exact hcons r3
          · rw [wNames_append, vNames_append]
            rw [r2] at r1
            obtain ⟨d1, d2, _⟩ := (UInv.pre r1).split
            exact hh.append s r4 (fun x hx => ⟨fun hm => (d1 x hm).1 hx, d2 x hx⟩) fun x hx => (d1 x hx).2
          · cases j with
            | zero =>
              simp only [List.getElem?_cons_zero, Option.some.injEq, Prod.mk.injEq] at hj
              simp only [List.getElem?_cons_zero, Nat.add_zero, Option.some.injEq]
              exact hk t0 hj.1 hj.2
            | succ j =>
              simp only [List.getElem?_cons_succ] at hj ⊢
              rw [r5 j t0 hj, show i + 1 + j = i + (j + 1) from by omega]
        have plain : isSl t = false ∨ m = .ro → ((match (viewCell t x).val (fun _ => .undef) c.hp, x.names.val (fun _ => .undef) c.hp with
            | some e, some ns => match viewUses ns used with
              | some used => pushE e (retCells c.hp (i + 1) ts xs used)
              | none => none
            | _, _ => none) = some q) →
            UInv q.2 ∧ ∃ new H O R, q.2 = new ++ used ∧ CellsOut c.w ((t, m) :: ts) (v :: vs) (c.dens q.1) H O R ∧ Handed c (wNames new) (vNames new) H O R ∧ ∀ (j : Nat) (t0 : List Ty), ((t, m) :: ts)[j]? = some (Ty.sl t0, Rm.kept) → (v :: vs)[j]? = some (c.given (i + j)) := by
          intro hm h
          split at h
          case h_2 => simp at h
          rename_i e ns h1 h2
          split at h
          case h_2 => simp at h
          rename_i used' h3
          obtain ⟨k1, new1, rfl, k2, k3⟩ := viewUses_ok h3 hu
          obtain ⟨f, p1, p2⟩ := view_ok s hv.1 h1 h2
          refine join (H1 := []) (O1 := []) (R1 := f) h k1 ⟨(fun _ h => nomatch h), (fun _ h => nomatch h), List.nodup_nil, fun k hk => (p2 k hk).imp id fun h => h.mono fun b hb => List.mem_append_right _ (k3 b hb), fun _ _ h => nomatch h⟩ (fun t0 e1 e2 => ?_) fun hc => .ro hm p1 hc
          rcases hm with hm | hm
          · rw [e1] at hm; simp [isSl] at hm
          · rw [e2] at hm; exact nomatch hm
        cases t with
        | sl t0 =>
          cases m with
          | ro => exact plain (.inr rfl) h
          | top =>
            simp only [retCells] at h
            split at h
            · refine join (new1 := []) (H1 := []) (O1 := []) (R1 := []) h hu Handed.nil (fun _ _ e => nomatch e) fun hc => ?_
              have := hv.1
              rw [this]
              exact CellsOut.top (f := []) (.inl ⟨rfl, rfl, rfl⟩) hc
            · rename_i b g
              split at h
              case h_2 => simp at h
              rename_i g' u ts' e own cl hb
              split at h
              case isFalse => simp at h
              rename_i hck
              simp only [Bool.and_eq_true, beq_iff_eq] at hck
              obtain ⟨⟨rfl, hts⟩, hfree⟩ := hck
              have := Ty.eqL hts
              subst this
              obtain ⟨p1, p2⟩ := handed_top s hb
              refine join (new1 := [.whole b]) h (hu.whole hfree) p2 (fun _ _ e => nomatch e) fun hc => ?_
              rw [hv.1.2.2 _ _ _ _ _ _ hb]
              exact .top p1 hc
            · simp at h
          | own =>
            simp only [retCells] at h
            split at h
            · refine join (new1 := []) (H1 := []) (O1 := []) (R1 := []) h hu Handed.nil (fun _ _ e => nomatch e) fun hc => ?_
              have := hv.1
              rw [this]
              exact CellsOut.own (f := []) .nil hc
            · rename_i b g
              split at h
              case h_2 => simp at h
              rename_i g' u ts' e cl hb
              split at h
              case isFalse => simp at h
              rename_i hck
              simp only [Bool.and_eq_true, beq_iff_eq] at hck
              obtain ⟨⟨rfl, hts⟩, hfree⟩ := hck
              have := Ty.eqL hts
              subst this
              refine join (new1 := [.whole b]) (R1 := []) h (hu.whole hfree) (handed_row s hb) (fun _ _ e => nomatch e) fun hc => ?_
              rw [hv.1.2.2 _ _ _ _ _ _ hb]
              exact .own (row_rep_own (s.blks _ _ hb)) hc
            · simp at h
          | kept =>
            simp only [retCells] at h
            split at h
            · rename_i ts' k
              split at h
              case isFalse => simp at h
              rename_i hck
              simp only [Bool.and_eq_true, beq_iff_eq] at hck
              obtain ⟨_, rfl⟩ := hck
              exact join (new1 := []) (H1 := []) (O1 := []) (R1 := []) h hu Handed.nil (fun _ _ _ => hv.1.1) fun hc => .kept hc
            · simp at h
        | int k => exact plain (.inl rfl) (by cases m <;> exact h)
        | bool => exact plain (.inl rfl) (by cases m <;> exact h)
        | str => exact plain (.inl rfl) (by cases m <;> exact h)
        | err => exact plain (.inl rfl) (by cases m <;> exact h)

/-! ### Results -/

def resRun (tmps : Array Value) (x : ResultVar) : Sem Value := match x with
  | .tmp t => pure (tmps.getD t Go.undef)
  | .cell b t => do loadVar t (← asAddr (tmps.getD b Go.undef))

theorem retOne_ok (s : Sim B c sl a) {k : RK} {used : List Use} {x : ResultVar} {q : List AV × List Use} (h : retOne P sl c.hp k used x = some q) (hu : UInv used) :
    ∃ v vs new, (resRun a.tmps x).run P c.w = .ok v c.w ∧ AVsOk c q.1 vs ∧ q.2 = new ++ used ∧ UInv q.2 ∧
      ((k.shape ≠ .ptr ∧ argVal (decide (k.shape = .agg)) vs v ∧ new = []) ∨
       (k.shape = .ptr ∧ ∃ b T, v = .pointer (some ⟨(c.L b).blk, 0, none⟩) ∧ c.w.heap[(c.L b).blk]? = some (.cells vs.toArray T (0, 0)) ∧ new = [.whole b] ∧ ∃ g cells, c.hp b = some (.box g cells))) := by
  cases x with
  | tmp t =>
    have hst := s.slots t
    simp only [retOne] at h
    split at h
    · rename_i l hsh hsl
      simp only [Option.some.injEq] at h
      subst h
      rw [hsl] at hst
      obtain ⟨vs, e1, e2⟩ := hst
      exact ⟨_, vs, [], rfl, e2, rfl, hu, .inl ⟨by rw [hsh]; simp, by simp [argVal, hsh, e1], rfl⟩⟩
    · simp at h
    · rename_i hsh hsl
      simp only [Option.some.injEq] at h
      subst h
      exact ⟨_, [a.tmps.getD t Go.undef], [], rfl, ⟨hst, trivial⟩, rfl, hu, .inl ⟨by rw [hsh]; simp, by simp [argVal, hsh], rfl⟩⟩
    · rename_i b g hsh hsl
      split at h
      case h_2 => simp at h
      rename_i g' cells hb
      split at h
      case isFalse => simp at h
      rename_i hck
      simp only [Bool.and_eq_true, beq_iff_eq] at hck
      obtain ⟨rfl, hfree⟩ := hck
      simp only [Option.some.injEq] at h
      subst h
      rw [hsl] at hst
      obtain ⟨vs, T, e1, e2⟩ := s.blks _ _ hb
      exact ⟨_, vs, [.whole b], rfl, e2, rfl, hu.whole hfree, .inr ⟨hsh, b, T, hst.2.2 _ hb, e1, rfl, _, _, hb⟩⟩
    · simp at h
  | cell b t =>
    have hst := s.slots b
    simp only [retOne] at h
    split at h
    case h_2 => simp at h
    rename_i n g ts agg hsl hts hagg
    split at h
    case h_2 => simp at h
    rename_i g' cells hb
    split at h
    case isFalse => simp at h
    rename_i hck
    simp only [Bool.and_eq_true, beq_iff_eq, decide_eq_true_eq] at hck
    obtain ⟨⟨⟨rfl, hlen⟩, hsh⟩, h1⟩ := hck
    simp only [Option.some.injEq] at h
    subst h
    rw [hsl] at hst
    obtain ⟨vs, T, e1, e2⟩ := s.blks _ _ hb
    have hp := hst.2.2 _ hb
    have hvl : vs.length = ts.length := by rw [avs_len e2, hlen]
    have h1' : agg = true ∨ ts.length = 1 := by simpa using h1
    refine ⟨varVal agg vs, vs, [], ?_, e2, rfl, hu, .inl ⟨by rw [hsh]; cases agg <;> simp [aggShape], ?_, rfl⟩⟩
    · have := run_loadVar hts hagg (w := c.w) (b := (c.L n).blk) (o := 0) hvl h1' (fun k hk => by
        rw [cell_of_row _ _ _ _ _ _ e1]; simp)
      simp [resRun, hp, asAddr, this]
    · rw [hsh]
      cases agg with
      | true => simp [argVal, varVal, aggShape]
      | false =>
        have : ts.length = 1 := by simpa using h1'
        match vs, hvl with
        | [v], _ => simp [argVal, varVal, aggShape]
        | [], h => simp [this] at h
        | _ :: _ :: _, h => simp [this] at h

theorem retVals_ok (s : Sim B c sl a) : ∀ {xs : List ResultVar} {ks : List RK} {used : List Use} {q : List E × List Use}, retVals P sl c.hp xs ks used = some q → UInv used →
    UInv q.2 ∧ ∃ vs new H O R, (xs.mapM (resRun a.tmps)).run P c.w = .ok vs c.w ∧ q.2 = new ++ used ∧ ResOut c.w ks vs (c.dens q.1) H O R ∧ Handed c (wNames new) (vNames new) H O R
  | [], ks, used, q, h, hu => by
    cases ks with
    | cons => simp [retVals] at h
    | nil =>
      simp [retVals] at h; subst h
      exact ⟨hu, [], [], [], [], [], by simp, rfl, .nil, Handed.nil⟩
  | x :: xs, ks, used, q, h, hu => by
    cases ks with
    | nil => simp [retVals] at h
    | cons k ks =>
      simp only [retVals] at h
      split at h
      · simp at h
      rename_i cs used1 h1
      split at h
      case h_2 => simp at h
      rename_i es used2 h2
      split at h
      case h_2 => simp at h
      rename_i es' used3 h3
      simp only [Option.some.injEq] at h
      subst h
      obtain ⟨v, vs, new1, r1, r2, r3, r4, r5⟩ := retOne_ok (P := P) s h1 hu
      simp only at r2 r3 r4
      obtain ⟨k1, new2, H, O, R, k2, k3, k4, _⟩ := retCells_ok s r2 h2 r4
      simp only at k1 k2 k3
      obtain ⟨q1, ws, new3, H', O', R', q2, q3, q4, q5⟩ := retVals_ok s h3 k1
      simp only at q1 q3 q4
      have hrun : ((x :: xs).mapM (resRun a.tmps)).run P c.w = .ok (v :: ws) c.w := by simp [r1, q2]
      have hq : UInv (new3 ++ (new2 ++ (new1 ++ used))) := by rw [← r3, ← k2, ← q3]; exact q1
      have hk : UInv (new2 ++ (new1 ++ used)) := by rw [← r3, ← k2]; exact k1
      obtain ⟨d1, d2, _⟩ := (UInv.pre (x := new3) (y := new2 ++ new1) (used := used) (by simpa [List.append_assoc] using hq)).split
      refine ⟨q1, v :: ws, new3 ++ (new2 ++ new1), ?_⟩
      have hused : used3 = new3 ++ (new2 ++ new1) ++ used := by rw [q3, k2, r3]; simp
      rcases r5 with ⟨hsh, hav, rfl⟩ | ⟨hsh, b, T, rfl, hbx, rfl, g, cells, hb⟩
      · refine ⟨H ++ H', O ++ O', R ++ R', hrun, hused, by rw [dens_append]; cases k; exact .val hsh hav k3 q4, ?_⟩
        rw [wNames_append, vNames_append, List.append_nil]
        rw [List.append_nil] at d1 d2
        exact k4.append s q5 (fun x hx => ⟨fun hm => (d1 x hm).1 hx, d2 x hx⟩) fun x hx => (d1 x hx).2
      · have hbh : Handed c (wNames [.whole b]) (vNames [.whole b]) [(c.L b).blk] [(c.L b).blk] [] :=
          ⟨fun k hk => ⟨b, List.mem_singleton.2 rfl, _, hb, hk⟩, fun k hk => ⟨b, List.mem_singleton.2 rfl, _, hb, hk⟩, by simp, (fun _ h => nomatch h), fun _ h => nomatch h⟩
        obtain ⟨e1, e2, _⟩ := (UInv.pre hk).split
        have h12 := hbh.append s k4 (fun x hx => ⟨fun hm => (e1 x hm).1 hx, e2 x hx⟩) fun x hx => (e1 x hx).2
        rw [← wNames_append, ← vNames_append] at h12
        have h123 := h12.append s q5 (fun x hx => ⟨fun hm => (d1 x hm).1 hx, d2 x hx⟩) fun x hx => (d1 x hx).2
        rw [← wNames_append, ← vNames_append] at h123
        refine ⟨(c.L b).blk :: (H ++ H'), (c.L b).blk :: (O ++ O'), R ++ R', hrun, hused, ?_, by simpa using h123⟩
        rw [dens_append]
        cases k with
        | mk ts sh => simp only at hsh; subst hsh; exact .ptr hbx k3 q4

theorem results_run {fn : Func} {vs : List Value} (h : (fn.results.toList.mapM (resRun a.tmps)).run P c.w = .ok vs c.w) : ∃ v, (results fn a.tmps).run P c.w = .ok v c.w ∧ retVal vs v := by
  have h' : (fn.results.mapM (resRun a.tmps)).run P c.w = .ok vs.toArray c.w := by
    rw [Array.mapM_eq_mapM_toList]
    simp [h]
  have hres : results fn a.tmps = (do
    let vs ← fn.results.mapM (resRun a.tmps)
    pure (if h : vs.size = 1 then vs[0] else .tuple vs)) := rfl
  refine ⟨if h : vs.toArray.size = 1 then vs.toArray[0] else .tuple vs.toArray, ?_, ?_⟩
  · rw [hres]
    simp [h']
  · match vs with
    | [] => simp [retVal]
    | [v] => simp [retVal]
    | _ :: _ :: _ => simp [retVal]

end
end Go.Sx
