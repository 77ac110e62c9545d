/-
  The machine, part Z: short words in which trees are written down.
-/
import Derived.Test.YtnglgoloeabbeaaMY
import Derived.KernelRfl
namespace Go.Sx
abbrev I : Ty := .int .i64
abbrev Y : Ty := .int .u8
abbrev v (i : Nat) : E := .var i
abbrev n (k : Int) : E := .int k
abbrev tt : E := .bool true
abbrev ff : E := .bool false
abbrev ad (x y : E) : E := .app (.add .i64) [x, y]
abbrev sb (x y : E) : E := .app (.sub .i64) [x, y]
abbrev mu (x y : E) : E := .app (.mul .i64) [x, y]
abbrev qu (x y : E) : E := .app (.quo .i64) [x, y]
abbrev rm (x y : E) : E := .app .rem [x, y]
abbrev lt (x y : E) : E := .app .lt [x, y]
abbrev le (x y : E) : E := .app .le [x, y]
abbrev eq (x y : E) : E := .app .eqi [x, y]
abbrev nt (x : E) : E := .app .not [x]
abbrev an (x y : E) : E := .app .and [x, y]
abbrev ro (x y : E) : E := .app .or [x, y]
abbrev it (c x y : E) : E := .app .ite [c, x, y]
abbrev ln (x : E) : E := .app .len [x]
abbrev ce (j : Nat) (x i : E) : E := .app (.cell j) [x, i]
abbrev ct (x y : E) : E := .app .cat [x, y]
abbrev cv (x : E) : E := .app (.conv .i64) [x]
abbrev fn (f r : Nat) (l : List E) : E := .app (.call f r) l
abbrev ap (f : F) (l : List E) : E := .app f l
abbrev ask (f : Nat) (l : List E) (t : T) : T := .ask (.bool true) f l t

/-! ### A function of a table -/

def look : List Fd → Nat → Option Fd
  | [], _ => none
  | d :: r, f => if d.f == f then some d else look r f
theorem look_mem : ∀ {l : List Fd} {f : Nat} {d : Fd}, look l f = some d → d ∈ l
  | [], f, d, h => by simp [look] at h
  | x :: l, f, d, h => by
    simp only [look] at h
    split at h
    · simp only [Option.some.injEq] at h
      rw [h]; exact List.mem_cons_self ..
    · exact List.mem_cons_of_mem _ (look_mem h)

theorem go {l : List Fd} (hb : below l = true) {d : Fd} (hd : d ∈ l) {ds : List D} {Q : List D → Prop} (h : wpT (Tab l).1 (Tab l).2 Q [] ds d.t) : (Tab l).2 d.f ds ∧ Q ((Tab l).1 d.f ds) := by
  obtain ⟨h1, h2⟩ := tab_at hb hd
  rw [h1, h2]
  exact sem_wp h

end Go.Sx
