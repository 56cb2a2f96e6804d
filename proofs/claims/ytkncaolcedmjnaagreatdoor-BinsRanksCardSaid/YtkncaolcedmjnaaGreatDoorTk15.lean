/- Words for walks over any program of the model: no statement of a law stands here. -/
import Derived.Test.YtkncaolcedmjnaaGreatDoorTk14
open Go Go.RowKit
namespace TK
variable {P : Program} {N : Nat} {env : Env} {w : World} {ty : TypeId}
theorem R_strLH {x o o' : Operand} {t : TypeId} {s : ByteArray} {k k' : IntKind} {l h : Int} (ht : P.underlying t = some .string) (hx : ev env x = some (.string s)) (ho : ev env o = some (.int k l)) (ho' : ev env o' = some (.int k' h)) (h0 : 0 ≤ l) (hlh : l ≤ h) (hh : h.toNat ≤ s.size) :
    Runs P N env (.slice t x (some o) (some o') none) ty w (.string (s.extract l.toNat h.toNat)) w := fun a d pos aft g ha => by
  obtain ⟨q, rfl⟩ := Int.eq_ofNat_of_zero_le h0
  obtain ⟨p, rfl⟩ := Int.eq_ofNat_of_zero_le (show 0 ≤ h by omega)
  simp only [Int.toNat_natCast] at hh
  have e1 := ha.ev hx; have e2 := ha.ev ho; have e3 := ha.ev ho'
  generalize a.eval = ρ at e1 e2 e3 ⊢
  have h1 : (0 : Int) ≤ (p : Int) ∧ (p : Int) ≤ (s.size : Int) := by omega
  have h2 : (0 : Int) ≤ (q : Int) ∧ (q : Int) ≤ (p : Int) := by omega
  simp [execOp, e1, e2, e3, Instr.sliceAt, run_underlying ht, Instr.slice, Instr.sliceBounds, Instr.sliceBound, asIntOf, h1, h2, hh, show q ≤ p by omega]
theorem R_strLo {x o : Operand} {t : TypeId} {s : ByteArray} {k : IntKind} {l : Int} (ht : P.underlying t = some .string) (hx : ev env x = some (.string s)) (ho : ev env o = some (.int k l)) (h0 : 0 ≤ l) (hh : l.toNat ≤ s.size) :
    Runs P N env (.slice t x (some o) none none) ty w (.string (s.extract l.toNat s.size)) w := fun a d pos aft g ha => by
  obtain ⟨q, rfl⟩ := Int.eq_ofNat_of_zero_le h0
  simp only [Int.toNat_natCast] at hh
  have e1 := ha.ev hx; have e2 := ha.ev ho
  generalize a.eval = ρ at e1 e2 ⊢
  have h2 : (0 : Int) ≤ (q : Int) ∧ (q : Int) ≤ (s.size : Int) := by omega
  simp [execOp, e1, e2, Instr.sliceAt, run_underlying ht, Instr.slice, Instr.sliceBounds, Instr.sliceBound, asIntOf, h2, hh]
theorem R_strHi {x o : Operand} {t : TypeId} {s : ByteArray} {k : IntKind} {h : Int} (ht : P.underlying t = some .string) (hx : ev env x = some (.string s)) (ho : ev env o = some (.int k h)) (h0 : 0 ≤ h) (hh : h.toNat ≤ s.size) :
    Runs P N env (.slice t x none (some o) none) ty w (.string (s.extract 0 h.toNat)) w := fun a d pos aft g ha => by
  obtain ⟨q, rfl⟩ := Int.eq_ofNat_of_zero_le h0
  simp only [Int.toNat_natCast] at hh
  have e1 := ha.ev hx; have e2 := ha.ev ho
  generalize a.eval = ρ at e1 e2 ⊢
  have h2 : (0 : Int) ≤ (q : Int) ∧ (q : Int) ≤ (s.size : Int) := by omega
  simp [execOp, e1, e2, Instr.sliceAt, run_underlying ht, Instr.slice, Instr.sliceBounds, Instr.sliceBound, asIntOf, h2, hh]
end TK
namespace TK
theorem slnil {α : Type} {R : Rep α} {M : MSet} {w : Go.World} {A : Option Go.Addr} : ([] : List α).length ≤ 0 ∧ Sl R M w A [] := ⟨Nat.le_refl _, Sl.nil⟩
end TK
namespace TK
open Go
theorem f64bits_of {P : Program} {f : FuncId} {fn : Func} (hf : P.funcs[f]? = some fn) (hname : (fn.name == "runtime.NumGoroutine") = false) (hb : fn.body.isNone = true) (hn : Extern.findNext fn = none) (he : Extern.find fn = some Extern.MathFloatBits.float64bits) : isF64bits P f := fun b w => by
  have hb' : fn.body = none := by simpa using hb
  have hn' : ¬ fn.name = "runtime.NumGoroutine" := by simpa using hname
  have e : Extern.MathFloatBits.float64bits #[.float .f64 b] = pure (.int .u64 b) := rfl
  simp [callFunc, hf, hn', hb', hn, he, e]
theorem f64from_of {P : Program} {f : FuncId} {fn : Func} (hf : P.funcs[f]? = some fn) (hname : (fn.name == "runtime.NumGoroutine") = false) (hb : fn.body.isNone = true) (hn : Extern.findNext fn = none) (he : Extern.find fn = some Extern.MathFloatBits.float64frombits) : isF64from P f := fun b w => by
  have hb' : fn.body = none := by simpa using hb
  have hn' : ¬ fn.name = "runtime.NumGoroutine" := by simpa using hname
  have e : Extern.MathFloatBits.float64frombits #[.int .u64 b] = pure (.float .f64 b.toNat) := rfl
  simp [callFunc, hf, hn', hb', hn, he, e]
end TK
