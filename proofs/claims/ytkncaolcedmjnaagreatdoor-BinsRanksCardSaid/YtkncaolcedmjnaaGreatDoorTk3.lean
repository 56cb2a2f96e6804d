/- Words for walks over any program of the model: no statement of a law stands here. -/
import Derived.Test.YtkncaolcedmjnaaGreatDoorTk2
import Derived.WalkLawsBesides
import Derived.WalkSpells
open Go Go.RowKit
namespace TK
section
variable {P : Program} {N : Nat} {env : Env} {w : World} {ty : TypeId}

theorem R_move {x : Operand} {v : Value} (hx : ev env x = some v) : Runs P N env (.move x) ty w v w := fun a d pos aft g ha => by
  simp [execOp, ha.ev hx]
theorem R_assign {x : Operand} {v : Value} (hx : ev env x = some v) : Runs P N env (.assign x) ty w v w := fun a d pos aft g ha => by
  simp [execOp, ha.ev hx]
theorem R_pick {c x y : Operand} {b : Bool} {u v : Value} (hc : ev env c = some (.bool b)) (hx : ev env x = some u) (hy : ev env y = some v) :
    Runs P N env (.pick c x y) ty w (if b then u else v) w := fun a d pos aft g ha => by
  simp [execOp, ha.ev hc, ha.ev hx, ha.ev hy, asBool]
theorem R_pickT {c x y : Operand} {u : Value} (hc : ev env c = some (.bool true)) (hx : ev env x = some u) :
    Runs P N env (.pick c x y) ty w u w := fun a d pos aft g ha => by
  simp [execOp, ha.ev hc, ha.ev hx, asBool]
theorem R_pickF {c x y : Operand} {v : Value} (hc : ev env c = some (.bool false)) (hy : ev env y = some v) :
    Runs P N env (.pick c x y) ty w v w := fun a d pos aft g ha => by
  simp [execOp, ha.ev hc, ha.ev hy, asBool]

/-- comparisons of whole numbers -/
def cmpI : BinOp → Int → Int → Bool
  | .eql, x, y => decide (x = y)
  | .neq, x, y => decide (x ≠ y)
  | .lss, x, y => decide (x < y)
  | .leq, x, y => decide (x ≤ y)
  | .gtr, x, y => decide (y < x)
  | _, x, y => decide (y ≤ x)
def isCmp : BinOp → Bool
  | .eql | .neq | .lss | .leq | .gtr | .geq => true
  | _ => false
theorem R_cmp {op : BinOp} {x y : Operand} {t u : TypeId} {k : IntKind} {m n : Int} (ho : isCmp op = true) (hx : ev env x = some (.int k m)) (hy : ev env y = some (.int k n)) :
    Runs P N env (.binOp op t x y u) ty w (.bool (cmpI op m n)) w := fun a d pos aft g ha => by
  cases op <;> simp only [isCmp, Bool.false_eq_true] at ho <;> simp [execOp, ha.ev hx, ha.ev hy, eqGuard, binOp, Op.intCmp, cmpI]
  all_goals rfl
/-- + - * -/
def arI : BinOp → Int → Int → Int
  | .add, x, y => x + y
  | .sub, x, y => x - y
  | _, x, y => x * y
def isAr : BinOp → Bool
  | .add | .sub | .mul => true
  | _ => false
theorem R_ar {op : BinOp} {x y : Operand} {t u : TypeId} {k : IntKind} {m n : Int} (ho : isAr op = true) (hx : ev env x = some (.int k m)) (hy : ev env y = some (.int k n)) :
    Runs P N env (.binOp op t x y u) ty w (.int k (k.wrap (arI op m n))) w := fun a d pos aft g ha => by
  cases op <;> simp only [isAr, Bool.false_eq_true] at ho <;> simp [execOp, ha.ev hx, ha.ev hy, eqGuard, binOp, Op.intArith, arI]
theorem R_not {x : Operand} {t : TypeId} {b : Bool} (hx : ev env x = some (.bool b)) : Runs P N env (.unOp .not t x) ty w (.bool (!b)) w := fun a d pos aft g ha => by
  simp [execOp, ha.ev hx, Op.unary]
theorem R_eqB {x y : Operand} {t u : TypeId} {b c : Bool} (ht : P.underlying t = some .bool) (hx : ev env x = some (.bool b)) (hy : ev env y = some (.bool c)) :
    Runs P N env (.binOp .eql t x y u) ty w (.bool (b == c)) w := fun a d pos aft g ha => by
  have e1 := ha.ev hx; have e2 := ha.ev hy
  generalize a.eval = ρ at e1 e2 ⊢
  simp [execOp, e1, e2, go_sem, ht]
theorem R_neB {x y : Operand} {t u : TypeId} {b c : Bool} (ht : P.underlying t = some .bool) (hx : ev env x = some (.bool b)) (hy : ev env y = some (.bool c)) :
    Runs P N env (.binOp .neq t x y u) ty w (.bool (b != c)) w := fun a d pos aft g ha => by
  have e1 := ha.ev hx; have e2 := ha.ev hy
  generalize a.eval = ρ at e1 e2 ⊢
  simp [execOp, e1, e2, go_sem, ht]
  cases b <;> cases c <;> rfl
/-- comparisons of binary64 numbers -/
def flo (x y : Nat) : Option Ordering := FloatKind.f64.format.order x y
def cmpF : BinOp → Nat → Nat → Bool
  | .eql, x, y => flo x y == some .eq
  | .neq, x, y => flo x y != some .eq
  | .lss, x, y => flo x y == some .lt
  | .leq, x, y => flo x y == some .lt || flo x y == some .eq
  | .gtr, x, y => flo x y == some .gt
  | _, x, y => flo x y == some .gt || flo x y == some .eq
theorem R_cmpF {op : BinOp} {x y : Operand} {t u : TypeId} {m n : Nat} (ho : isCmp op = true) (hx : ev env x = some (.float .f64 m)) (hy : ev env y = some (.float .f64 n)) :
    Runs P N env (.binOp op t x y u) ty w (.bool (cmpF op m n)) w := fun a d pos aft g ha => by
  cases op <;> simp only [isCmp, Bool.false_eq_true] at ho <;> simp [execOp, ha.ev hx, ha.ev hy, eqGuard, binOp, Op.floatCmp, cmpF, flo]
theorem R_convI {x : Operand} {s t : TypeId} {k k' : IntKind} {m : Int} (hs : ∃ d, P.underlying s = some d) (ht : P.underlying t = some (.int k')) (hx : ev env x = some (.int k m)) :
    Runs P N env (.convert s t x) ty w (.int k' (k'.wrap m)) w := fun a d pos aft g ha => by
  obtain ⟨d, hs⟩ := hs
  simp [execOp, ha.ev hx, convert, run_underlying hs, run_underlying ht, Conv.intToInt]
theorem R_convF {x : Operand} {s t : TypeId} {k : IntKind} {m : Int} (hs : ∃ d, P.underlying s = some d) (ht : P.underlying t = some (.float .f64)) (hx : ev env x = some (.int k m)) :
    Runs P N env (.convert s t x) ty w (.float .f64 (FloatKind.f64.nearest m)) w := fun a d pos aft g ha => by
  obtain ⟨d, hs⟩ := hs
  simp [execOp, ha.ev hx, convert, run_underlying hs, run_underlying ht, Conv.intToFloat]
theorem R_extract {x : Operand} {vs : Array Value} {i : Nat} {v : Value} (hx : ev env x = some (.tuple vs)) (hi : vs[i]? = some v) :
    Runs P N env (.extract x i) ty w v w := fun a d pos aft g ha => by
  simp [execOp, ha.ev hx, Instr.extract, hi]
theorem R_func {fn : Fn} {first captured : Array Operand} {fs cs : Array Value} (hf : first.toList.mapM (ev env) = some fs.toList) (hc : captured.toList.mapM (ev env) = some cs.toList) :
    Runs P N env (.makeFunc fn first captured) ty w (.func fn fs cs) w := fun a d pos aft g ha => by
  have key : ∀ (l : List Operand) (vs : List Value), l.mapM (ev env) = some vs → l.map a.eval = vs := by
    intro l
    induction l with
    | nil => intro vs h; simpa using h
    | cons x r ih =>
      intro vs h
      simp only [List.mapM_cons, Option.pure_def, Option.bind_eq_bind, Option.bind_eq_some_iff] at h
      obtain ⟨v, hv, vs', h2, h3⟩ := h
      simp only [Option.some.injEq] at h3
      subst h3
      simp [ha.ev hv, ih _ h2]
  have e1 : first.map a.eval = fs := by rw [← Array.toList_inj]; simpa using key _ _ hf
  have e2 : captured.map a.eval = cs := by rw [← Array.toList_inj]; simpa using key _ _ hc
  simp [execOp, e1, e2, Instr.makeFunc]
theorem R_lenS {x : Operand} {t : TypeId} {e : TypeId} {A : Option Addr} {m c : Nat} (ht : P.underlying t = some (.slice e)) (hx : ev env x = some (.slice A m c)) :
    Runs P N env (.call { callee := .builtin .len, args := #[x], argTypes := #[t] }) ty w (.int .i64 m) w := fun a d pos aft g ha => by
  simp [execOp, ha.ev hx, resolve, invoke, builtin, Builtin.len_, run_underlying ht, goInt]
theorem R_min {x y : Operand} {ts : Array TypeId} {k : IntKind} {m n : Int} (hx : ev env x = some (.int k m)) (hy : ev env y = some (.int k n)) :
    Runs P N env (.call { callee := .builtin .min, args := #[x, y], argTypes := ts }) ty w (.int k (if n < m then n else m)) w := fun a d pos aft g ha => by
  have e1 := ha.ev hx; have e2 := ha.ev hy
  generalize a.eval = ρ at e1 e2 ⊢
  simp [execOp, e1, e2, resolve, invoke, builtin, Builtin.min_, Builtin.min2, go_sem]
theorem R_max {x y : Operand} {ts : Array TypeId} {k : IntKind} {m n : Int} (hx : ev env x = some (.int k m)) (hy : ev env y = some (.int k n)) :
    Runs P N env (.call { callee := .builtin .max, args := #[x, y], argTypes := ts }) ty w (.int k (if m < n then n else m)) w := fun a d pos aft g ha => by
  have e1 := ha.ev hx; have e2 := ha.ev hy
  generalize a.eval = ρ at e1 e2 ⊢
  simp [execOp, e1, e2, resolve, invoke, builtin, Builtin.max_, Builtin.max2, go_sem]
end
end TK
