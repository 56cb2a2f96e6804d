/- Words for walks over any program of the model: no statement of a law stands here. -/
import Derived.Test.YtkncaolcedmjnaaGreatDoorTk8
open Go Go.RowKit
namespace TK
section
variable {ro : Option Nat} {n : Nat} {P : Program} {Q : Exit → Act → World → Prop} {N : Nat} {env env' : Env} {w0 w w' : World} {ops : Array Oper} {ty : TypeId} {pos : String} {aft : Array Edge} {rest : List Oper}
variable {M : MSet} {L : List Res} {Fs : List Fact} {α : Type} {R : Rep α} {e : TypeId}

theorem Sta.cell (hS : Sta w0 M L Fs w) (i : Nat) {b j : Nat} {cs : List Value} {T : TypeId} {v : Value} (hi : L[i]? = some (Blk b cs T)) (hj : cs[j]? = some v) : w.cell? ⟨b, j, none⟩ = some v := Blk.cell (hS.res i hi) hj
theorem Sta.cells (hS : Sta w0 M L Fs w) (i : Nat) {b o m : Nat} {cs ds : List Value} {T : TypeId} (hi : L[i]? = some (Blk b cs T)) (hds : (cs.drop o).take m = ds) : ∀ k u, ds[k]? = some u → w.cell? ((⟨b, o, none⟩ : Addr).add k) = some u := Blk.cells (hS.res i hi) o m hds
theorem Row.len {B : Nat} {A : Option Addr} {m c : Nat} {ys : List α} (h : (Row R e (.slice A m c) ys).ok B M w) : ys.length = m := by
  obtain ⟨A', c', h, _⟩ := Row.slice h
  simp only [Value.slice.injEq] at h
  exact h.2.1.symm
theorem Sta.rget (hS : Sta w0 M L Fs w) (i : Nat) {A : Option Addr} {m c : Nat} {ys : List α} (hi : L[i]? = some (Row R e (.slice A m c) ys)) {q : Nat} {y : α} (hy : ys[q]? = some y) :
    ∃ ad cs, A = some ad ∧ q < m ∧ R.K (Mx M L) w y cs ∧ ∀ j u, cs[j]? = some u → w.cell? ((ad.add (q * R.sz)).add j) = some u := by
  obtain ⟨ad, cs, h1, h2, h3⟩ := Row.get (hS.res i hi) hy
  refine ⟨ad, cs, h1, ?_, h2, h3⟩
  rw [← Row.len (hS.res i hi)]
  exact (List.getElem?_eq_some_iff.1 hy).1
theorem Sta.sget (hS : Sta w0 M L Fs w) (i : Nat) {A : Option Addr} {c : Nat} {xs : List α} (hi : Fs[i]? = some (FSl R A c xs)) {q : Nat} {x : α} (hx : xs[q]? = some x) :
    ∃ ad cs, A = some ad ∧ q < xs.length ∧ R.K (Mx M L) w x cs ∧ ∀ j u, cs[j]? = some u → w.cell? ((ad.add (q * R.sz)).add j) = some u := by
  obtain ⟨ad, cs, h1, _, h2, h3⟩ := Sl.get (hS.sl i hi).2 hx
  exact ⟨ad, cs, h1, (List.getElem?_eq_some_iff.1 hx).1, h2, h3⟩
theorem Sta.take (hS : Sta w0 M L Fs w) (i : Nat) {A : Option Addr} {m c : Nat} {ys : List α} (hi : L[i]? = some (Row R e (.slice A m c) ys)) (h : Nat) (hh : h ≤ m) :
    Sta w0 M (L.set i (Row R e (.slice A h c) (ys.take h))) Fs w := hS.takeRow i hi h (by rw [Row.len (hS.res i hi)]; exact hh)
theorem R_sliceHi {x o : Operand} {t : TypeId} {sz by_ : Nat} {z : Value} (ht : P.underlying t = some (.slice e)) (he : zinfo P e = some (z, sz, by_)) {A : Option Addr} {m c : Nat} {k : IntKind} {h : Int} (hx : ev env x = some (.slice A m c))
    (ho : ev env o = some (.int k h)) (h0 : 0 ≤ h) (hc : h.toNat ≤ c) : Runs P N env (.slice t x none (some o) none) ty w (.slice A h.toNat c) w := by
  obtain ⟨q, rfl⟩ := Int.eq_ofNat_of_zero_le h0
  have := R_slice (P := P) (N := N) (env := env) (w := w) (ty := ty) ht he hx (lo := none) (hi := some o) (l := 0) (h := q) (.inl ⟨rfl, rfl⟩) (.inr ⟨k, o, rfl, ho⟩) (Nat.zero_le _) (by simpa using hc)
  simpa [subA_zero] using this
theorem R_sliceLo {x o : Operand} {t : TypeId} {sz by_ : Nat} {z : Value} (ht : P.underlying t = some (.slice e)) (he : zinfo P e = some (z, sz, by_)) {A : Option Addr} {m c : Nat} {k : IntKind} {l : Int} (hx : ev env x = some (.slice A m c))
    (ho : ev env o = some (.int k l)) (h0 : 0 ≤ l) (hl : l.toNat ≤ m) (hc : m ≤ c) : Runs P N env (.slice t x (some o) none none) ty w (.slice (subA A l.toNat sz c) (m - l.toNat) (c - l.toNat)) w := by
  obtain ⟨q, rfl⟩ := Int.eq_ofNat_of_zero_le h0
  exact R_slice (P := P) (N := N) (env := env) (w := w) (ty := ty) ht he hx (lo := some o) (hi := none) (l := q) (h := m) (.inr ⟨k, o, rfl, ho⟩) (.inl ⟨rfl, rfl⟩) (by simpa using hl) hc
theorem R_sliceLH {x o o' : Operand} {t : TypeId} {sz by_ : Nat} {z : Value} (ht : P.underlying t = some (.slice e)) (he : zinfo P e = some (z, sz, by_)) {A : Option Addr} {m c : Nat} {k k' : IntKind} {l h : Int} (hx : ev env x = some (.slice A m c))
    (ho : ev env o = some (.int k l)) (ho' : ev env o' = some (.int k' h)) (h0 : 0 ≤ l) (hlh : l ≤ h) (hc : h.toNat ≤ c) : Runs P N env (.slice t x (some o) (some o') none) ty w (.slice (subA A l.toNat sz c) (h.toNat - l.toNat) (c - l.toNat)) w := by
  obtain ⟨q, rfl⟩ := Int.eq_ofNat_of_zero_le h0
  obtain ⟨p, rfl⟩ := Int.eq_ofNat_of_zero_le (show 0 ≤ h by omega)
  exact R_slice (P := P) (N := N) (env := env) (w := w) (ty := ty) ht he hx (lo := some o) (hi := some o') (l := q) (h := p) (.inr ⟨k, o, rfl, ho⟩) (.inr ⟨k', o', rfl, ho'⟩) (by omega) (by simpa using hc)
theorem Sta.subF (hS : Sta w0 M L Fs w) (i : Nat) {A : Option Addr} {c : Nat} {xs : List α} (hi : Fs[i]? = some (FSl R A c xs)) (l h : Nat) (hlh : l ≤ h) (hh : h ≤ xs.length) :
    Sta w0 M L (FSl R (subA A l R.sz c) (c - l) ((xs.take h).drop l) :: Fs) w := by
  have hs := hS.sl i hi
  exact hS.addF _ ⟨by simp; omega, Sl.sub hs.2 hs.1 hlh hh⟩
theorem WL.gcallb {j dj : Nat} {oj : Oper} {b c : Bool} {d : Nat} {f : FuncId} {x : Operand} {args : Array Operand} {vs caps : List Value} {tys : Array TypeId} {Φ : Value → World → Prop}
    (hj : ops[j]? = some oj) (hdj : oj.dst = some dj) (hl : lk env dj = some (.bool b)) (hb : b = c) (he : Go.Proofs.Enters P f) (hx : ev env x = some (.func (.func f) #[] caps.toArray)) (hv : args.toList.mapM (ev env) = some vs)
    (hS : Sta w0 M L Fs w) (hc : Calls P f (vs ++ caps).toArray w (Gives w Φ)) (hd : Nat.ble (d + 1) N = true)
    (h : ∀ v w', Below w.heap.size w w' → Sta w0 M L Fs w' → Φ v w' → WL ro n P ops Q N ((d, v) :: env) rest w') :
    WL ro n P ops Q N env (⟨some d, .call { callee := .value x, args := args, argTypes := tys }, ty, pos, aft, some (j, c)⟩ :: rest) w := by
  subst hb; exact WL.gcall hj hdj hl he hx hv hS hc hd h
theorem QL.gcallb {j dj : Nat} {oj : Oper} {b c : Bool} {d : Nat} {f : FuncId} {x : Operand} {args : Array Operand} {vs caps : List Value} {tys : Array TypeId} {v : Value} {Qa : Act → Prop} (hj : ops[j]? = some oj) (hdj : oj.dst = some dj) (hl : lk env dj = some (.bool b)) (hb : b = c)
    (he : Go.Proofs.Enters P f) (hx : ev env x = some (.func (.func f) #[] caps.toArray)) (hv : args.toList.mapM (ev env) = some vs)
    (hc : ∀ w', Below w.heap.size w w' → Calls P f (vs ++ caps).toArray w' (Gives w' fun u _ => u = v)) (hd : Nat.ble (d + 1) N = true)
    (h : QL n P ops (Below w.heap.size w) Qa N ((d, v) :: env) rest) :
    QL n P ops (Below w.heap.size w) Qa N env (⟨some d, .call { callee := .value x, args := args, argTypes := tys }, ty, pos, aft, some (j, c)⟩ :: rest) := by
  subst hb; exact QL.gcall hj hdj hl he hx hv hc hd h
/-- a call whose ending is met by hand: the callee's text is walked in place -/
theorem WL.inl {d : Nat} {f : FuncId} {x : Operand} {args : Array Operand} {vs caps : List Value} {tys : Array TypeId} (he : Go.Proofs.Enters P f) (hx : ev env x = some (.func (.func f) #[] caps.toArray)) (hv : args.toList.mapM (ev env) = some vs) (hd : Nat.ble (d + 1) N = true)
    (hc : Calls P f (vs ++ caps).toArray w (fun e w' => ∃ v, e = .returned v ∧ WL ro n P ops Q N ((d, v) :: env) rest w')) :
    WL ro n P ops Q N env (⟨some d, .call { callee := .value x, args := args, argTypes := tys }, ty, pos, aft, none⟩ :: rest) w :=
  WL.callR he hx hv hc hd fun v w' h => h

/-! Float64bits and back: by the model's own words -/
def isF64bits (P : Program) (f : FuncId) : Prop := ∀ b w, (callFunc f #[.float .f64 b]).run P w = .ok (.value (.int .u64 b)) w
def isF64from (P : Program) (f : FuncId) : Prop := ∀ b w, (callFunc f #[.int .u64 b]).run P w = .ok (.value (.float .f64 b.toNat)) w
theorem R_f64bits {f : FuncId} {x : Operand} {tys : Array TypeId} {b : Nat} (hf : isF64bits P f) (hx : ev env x = some (.float .f64 b)) :
    Runs P N env (.call { callee := .value (.func f), args := #[x], argTypes := tys }) ty w (.int .u64 b) w := fun a d pos aft g ha => by
  have := hf b w
  have e1 := ha.ev hx
  generalize hρ : a.eval = ρ at e1 ⊢
  have e2 : ρ (.func f) = .func (.func f) #[] #[] := by rw [← hρ]; rfl
  simp [execOp, resolve, e1, e2, Deferred.ofValue, invoke, this]
theorem R_f64from {f : FuncId} {x : Operand} {tys : Array TypeId} {b : Int} (hf : isF64from P f) (hx : ev env x = some (.int .u64 b)) :
    Runs P N env (.call { callee := .value (.func f), args := #[x], argTypes := tys }) ty w (.float .f64 b.toNat) w := fun a d pos aft g ha => by
  have := hf b w
  have e1 := ha.ev hx
  generalize hρ : a.eval = ρ at e1 ⊢
  have e2 : ρ (.func f) = .func (.func f) #[] #[] := by rw [← hρ]; rfl
  simp [execOp, resolve, e1, e2, Deferred.ofValue, invoke, this]

/-! shifts, bits, division -/
def shI : BinOp → IntKind → Int → Int → Int
  | .shl, k, x, y => k.wrap (x * 2 ^ (min y.toNat k.bits))
  | _, k, x, y => x.fdiv (2 ^ (min y.toNat k.bits))
def isSh : BinOp → Bool
  | .shl | .shr => true
  | _ => false
theorem R_sh {op : BinOp} {x y : Operand} {t u : TypeId} {k k' : IntKind} {m q : Int} (ho : isSh op = true) (hx : ev env x = some (.int k m)) (hy : ev env y = some (.int k' q)) (hq : 0 ≤ q) :
    Runs P N env (.binOp op t x y u) ty w (.int k (shI op k m q)) w := fun a d pos aft g ha => by
  have hq' : ¬ q < 0 := by omega
  have e1 := ha.ev hx; have e2 := ha.ev hy
  generalize a.eval = ρ at e1 e2 ⊢
  cases op <;> simp only [isSh, Bool.false_eq_true] at ho <;> simp [execOp, e1, e2, eqGuard, binOp, Op.shift, hq', shI]
def btI (op : BinOp) (k : IntKind) (x y : Int) : Int :=
  let a := BitVec.ofInt k.bits x
  let b := BitVec.ofInt k.bits y
  k.wrap (match op with
    | .and => (a &&& b).toNat
    | .or => (a ||| b).toNat
    | .xor => (a ^^^ b).toNat
    | _ => (a &&& ~~~b).toNat)
def isBt : BinOp → Bool
  | .and | .or | .xor | .andNot => true
  | _ => false
theorem R_bt {op : BinOp} {x y : Operand} {t u : TypeId} {k : IntKind} {m q : Int} (ho : isBt op = true) (hx : ev env x = some (.int k m)) (hy : ev env y = some (.int k q)) :
    Runs P N env (.binOp op t x y u) ty w (.int k (btI op k m q)) w := fun a d pos aft g ha => by
  have e1 := ha.ev hx; have e2 := ha.ev hy
  generalize a.eval = ρ at e1 e2 ⊢
  cases op <;> simp only [isBt, Bool.false_eq_true] at ho <;> simp [execOp, e1, e2, eqGuard, binOp, Op.intBits, btI]
theorem R_quo {x y : Operand} {t u : TypeId} {k : IntKind} {m q : Int} (hx : ev env x = some (.int k m)) (hy : ev env y = some (.int k q)) (hq : q ≠ 0) :
    Runs P N env (.binOp .quo t x y u) ty w (.int k (k.wrap (m.tdiv q))) w := fun a d pos aft g ha => by
  have e1 := ha.ev hx; have e2 := ha.ev hy
  generalize a.eval = ρ at e1 e2 ⊢
  simp [execOp, e1, e2, eqGuard, binOp, Op.intDiv, hq]
theorem R_rem {x y : Operand} {t u : TypeId} {k : IntKind} {m q : Int} (hx : ev env x = some (.int k m)) (hy : ev env y = some (.int k q)) (hq : q ≠ 0) :
    Runs P N env (.binOp .rem t x y u) ty w (.int k (m.tmod q)) w := fun a d pos aft g ha => by
  have e1 := ha.ev hx; have e2 := ha.ev hy
  generalize a.eval = ρ at e1 e2 ⊢
  simp [execOp, e1, e2, eqGuard, binOp, Op.intDiv, hq]
theorem R_neg {x : Operand} {t : TypeId} {k : IntKind} {m : Int} (hx : ev env x = some (.int k m)) : Runs P N env (.unOp .neg t x) ty w (.int k (k.wrap (-m))) w := fun a d pos aft g ha => by
  have e1 := ha.ev hx
  generalize a.eval = ρ at e1 ⊢
  simp [execOp, e1, Op.unary, Op.intArith]
theorem R_eqS {x y : Operand} {t u : TypeId} {a b : ByteArray} (hx : ev env x = some (.string a)) (hy : ev env y = some (.string b)) :
    Runs P N env (.binOp .eql t x y u) ty w (.bool (a.toList == b.toList)) w := fun ac d pos aft g ha => by
  have e1 := ha.ev hx; have e2 := ha.ev hy
  generalize ac.eval = ρ at e1 e2 ⊢
  simp [execOp, e1, e2, eqGuard, binOp, Op.stringOp]
theorem R_neS {x y : Operand} {t u : TypeId} {a b : ByteArray} (hx : ev env x = some (.string a)) (hy : ev env y = some (.string b)) :
    Runs P N env (.binOp .neq t x y u) ty w (.bool (!(a.toList == b.toList))) w := fun ac d pos aft g ha => by
  have e1 := ha.ev hx; have e2 := ha.ev hy
  generalize ac.eval = ρ at e1 e2 ⊢
  simp [execOp, e1, e2, eqGuard, binOp, Op.stringOp]
end
end TK
