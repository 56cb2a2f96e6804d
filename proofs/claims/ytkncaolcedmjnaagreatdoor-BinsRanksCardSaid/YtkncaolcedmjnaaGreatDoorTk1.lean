/- Words for walks over any program of the model: no statement of a law stands here. -/
import Derived.WalkKit
import Derived.TacticsIn
import Derived.TacticsInMore
import Derived.OwnWalkIn
import Derived.LoopNIn
import Derived.LoopIn
import Derived.KernelRfl
open Go Go.RowKit
namespace TK

/-! ### frames -/
abbrev Env := List (Nat × Value)
def lk : Env → Nat → Option Value
  | [], _ => none
  | (s, v) :: r, t => cond (Nat.beq s t) (some v) (lk r t)
def ev (env : Env) : Operand → Option Value
  | .tmp t => lk env t
  | .const v => some v
  | .global g => some (.pointer (some ⟨g, 0, none⟩))
  | .func f => some (.func (.func f) #[] #[])

structure Ag (n : Nat) (env : Env) (a : Act) : Prop where
  size : a.tmps.size = n
  dfr : a.defers = []
  at_ : ∀ t v, lk env t = some v → a.tmps[t]? = some v

theorem Ag.ev {n : Nat} {env : Env} {a : Act} (h : Ag n env a) {x : Operand} {v : Value} (hx : TK.ev env x = some v) : a.eval x = v := by
  cases x with
  | tmp t => simp only [TK.ev] at hx; have := h.at_ t v hx; simp [Act.eval, Array.getD_eq_getD_getElem?, this]
  | const u => simp only [TK.ev, Option.some.injEq] at hx; simpa [Act.eval] using hx
  | global g => simp only [TK.ev, Option.some.injEq] at hx; simpa [Act.eval] using hx
  | func f => simp only [TK.ev, Option.some.injEq] at hx; simpa [Act.eval] using hx

theorem Ag.put {n : Nat} {env : Env} {a : Act} (h : Ag n env a) {d : Nat} (hd : d < n) (v : Value) : Ag n ((d, v) :: env) (a.put (some d) v) := by
  refine ⟨by simp [Act.put, h.size], by simp [Act.put, h.dfr], fun t u ht => ?_⟩
  simp only [lk] at ht
  by_cases e : d = t
  · subst e
    simp only [Nat.beq_refl, cond_true, Option.some.injEq] at ht
    subst ht
    simp [Act.put, Array.getElem?_setIfInBounds, h.size, hd]
  · have e' : Nat.beq d t = false := by
      cases hb : Nat.beq d t
      · rfl
      · exact absurd (Nat.eq_of_beq_eq_true hb) e
    rw [e', cond_false] at ht
    simp [Act.put, Array.getElem?_setIfInBounds, e, h.at_ t u ht]

/-- env' is part of env -/
def Sub (env : Env) : Env → Prop
  | [] => True
  | (s, v) :: r => lk env s = some v ∧ Sub env r
theorem Sub.lk {env : Env} : ∀ {env' : Env}, Sub env env' → ∀ t v, TK.lk env' t = some v → TK.lk env t = some v
  | [], _, t, v, h => by simp [TK.lk] at h
  | (s, u) :: r, hs, t, v, h => by
    obtain ⟨h1, h2⟩ := hs
    simp only [TK.lk] at h
    by_cases e : s = t
    · subst e; simp only [Nat.beq_refl, cond_true, Option.some.injEq] at h; rw [← h]; exact h1
    · have e' : Nat.beq s t = false := by
        cases hb : Nat.beq s t
        · rfl
        · exact absurd (Nat.eq_of_beq_eq_true hb) e
      rw [e'] at h
      exact Sub.lk h2 t v (by simpa using h)
theorem Ag.keep {n : Nat} {env env' : Env} {a : Act} (h : Ag n env a) (hs : Sub env env') : Ag n env' a :=
  ⟨h.size, h.dfr, fun t v ht => h.at_ t v (Sub.lk hs t v ht)⟩

end TK
