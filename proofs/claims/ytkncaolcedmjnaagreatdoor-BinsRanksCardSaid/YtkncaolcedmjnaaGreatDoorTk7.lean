/- Words for walks over any program of the model: no statement of a law stands here. -/
import Derived.Test.YtkncaolcedmjnaaGreatDoorTk6
import Derived.Sort.QuietThIn
open Go Go.RowKit Go.Shelf
namespace TK
section
variable {ro : Option Nat} {n : Nat} {P : Program} {Q : Exit → Act → World → Prop} {N : Nat} {env : Env} {w0 w w' : World} {ops : Array Oper} {ty : TypeId} {pos : String} {aft : Array Edge} {rest : List Oper}
variable {M : MSet} {L : List Res} {Fs : List Fact} {α : Type} {R : Rep α} {e : TypeId}

/-! calls -/
theorem ev_list {env : Env} {N : Nat} {a : Act} (ha : Ag N env a) : ∀ (l : List Operand) (vs : List Value), l.mapM (ev env) = some vs → l.map a.eval = vs
  | [], vs, h => by simpa using h
  | x :: r, vs, h => by
    simp only [List.mapM_cons, Option.pure_def, Option.bind_eq_bind, Option.bind_eq_some_iff] at h
    obtain ⟨v, hv, vs', h2, h3⟩ := h
    simp only [Option.some.injEq] at h3
    subst h3
    simp [ha.ev hv, ev_list ha r _ h2]
theorem exec_call {f : FuncId} {x : Operand} {args : Array Operand} {vs caps : List Value} {tys : Array TypeId} (he : Go.Proofs.Enters P f) (hx : ev env x = some (.func (.func f) #[] caps.toArray)) (hv : args.toList.mapM (ev env) = some vs) {a : Act} (ha : Ag N env a) (d : Option Tmp) (ty : TypeId) (pos : String) (aft : Array Edge) (g : Option (Nat × Bool)) (w : World) :
    (execOp a.eval ⟨d, .call { callee := .value x, args := args, argTypes := tys }, ty, pos, aft, g⟩).run P w = .ok (.enter f (vs ++ caps).toArray) w := by
  have e1 : args.map a.eval = vs.toArray := by rw [← Array.toList_inj]; simpa using ev_list ha _ _ hv
  simp [execOp, resolve, ha.ev hx, Deferred.ofValue, invoke, e1]
  exact he _ _
theorem WL.call {d : Nat} {f : FuncId} {x : Operand} {args : Array Operand} {vs caps : List Value} {tys : Array TypeId} {Φ : Value → World → Prop} (he : Go.Proofs.Enters P f) (hx : ev env x = some (.func (.func f) #[] caps.toArray)) (hv : args.toList.mapM (ev env) = some vs)
    (hS : Sta w0 M L Fs w) (hc : Calls P f (vs ++ caps).toArray w (Gives w Φ)) (hd : Nat.ble (d + 1) N = true)
    (h : ∀ v w', Below w.heap.size w w' → Sta w0 M L Fs w' → Φ v w' → WL ro n P ops Q N ((d, v) :: env) rest w') :
    WL ro n P ops Q N env (⟨some d, .call { callee := .value x, args := args, argTypes := tys }, ty, pos, aft, none⟩ :: rest) w := fun a ha => by
  have hN : d < N := Nat.le_of_ble_eq_true hd
  refine wpListIn_plain rfl fun K hK => ⟨fun _ _ => trivial, ?_⟩
  rw [Oper.semAt_eq _ _ _ (by intro c hc; simp only at hc; cases hc), exec_call he hx hv ha]
  refine ⟨fun h => by simp [fr, Fence.wide] at h, callsIn_fr (hc.mono ?_)⟩
  rintro e w' ⟨v, rfl, hb, hp⟩
  exact hK _ _ (h v w' hb (hS.ext hb) hp _ (ha.put hN v))
/-- a call of any ending world -/
theorem WL.callR {d : Nat} {f : FuncId} {x : Operand} {args : Array Operand} {vs caps : List Value} {tys : Array TypeId} {Φ : Value → World → Prop} (he : Go.Proofs.Enters P f) (hx : ev env x = some (.func (.func f) #[] caps.toArray)) (hv : args.toList.mapM (ev env) = some vs)
    (hc : Calls P f (vs ++ caps).toArray w (fun e w' => ∃ v, e = .returned v ∧ Φ v w')) (hd : Nat.ble (d + 1) N = true)
    (h : ∀ v w', Φ v w' → WL ro n P ops Q N ((d, v) :: env) rest w') :
    WL ro n P ops Q N env (⟨some d, .call { callee := .value x, args := args, argTypes := tys }, ty, pos, aft, none⟩ :: rest) w := fun a ha => by
  have hN : d < N := Nat.le_of_ble_eq_true hd
  refine wpListIn_plain rfl fun K hK => ⟨fun _ _ => trivial, ?_⟩
  rw [Oper.semAt_eq _ _ _ (by intro c hc; simp only at hc; cases hc), exec_call he hx hv ha]
  refine ⟨fun h => by simp [fr, Fence.wide] at h, callsIn_fr (hc.mono ?_)⟩
  rintro e w' ⟨v, rfl, hp⟩
  exact hK _ _ (h v w' hp _ (ha.put hN v))
theorem WL.callU {f : FuncId} {x : Operand} {args : Array Operand} {vs caps : List Value} {tys : Array TypeId} {Φ : Value → World → Prop} (he : Go.Proofs.Enters P f) (hx : ev env x = some (.func (.func f) #[] caps.toArray)) (hv : args.toList.mapM (ev env) = some vs)
    (hc : Calls P f (vs ++ caps).toArray w (fun e w' => ∃ v, e = .returned v ∧ Φ v w'))
    (h : ∀ v w', Φ v w' → WL ro n P ops Q N env rest w') :
    WL ro n P ops Q N env (⟨none, .call { callee := .value x, args := args, argTypes := tys }, ty, pos, aft, none⟩ :: rest) w := fun a ha => by
  refine wpListIn_plain rfl fun K hK => ⟨fun _ _ => trivial, ?_⟩
  rw [Oper.semAt_eq _ _ _ (by intro c hc; simp only at hc; cases hc), exec_call he hx hv ha]
  refine ⟨fun h => by simp [fr, Fence.wide] at h, callsIn_fr (hc.mono ?_)⟩
  rintro e w' ⟨v, rfl, hp⟩
  exact hK _ _ (h v w' hp _ ha)
/-- a guarded call that is carried out -/
theorem WL.gcall {j dj : Nat} {oj : Oper} {b : Bool} {d : Nat} {f : FuncId} {x : Operand} {args : Array Operand} {vs caps : List Value} {tys : Array TypeId} {Φ : Value → World → Prop}
    (hj : ops[j]? = some oj) (hdj : oj.dst = some dj) (hl : lk env dj = some (.bool b)) (he : Go.Proofs.Enters P f) (hx : ev env x = some (.func (.func f) #[] caps.toArray)) (hv : args.toList.mapM (ev env) = some vs)
    (hS : Sta w0 M L Fs w) (hc : Calls P f (vs ++ caps).toArray w (Gives w Φ)) (hd : Nat.ble (d + 1) N = true)
    (h : ∀ v w', Below w.heap.size w w' → Sta w0 M L Fs w' → Φ v w' → WL ro n P ops Q N ((d, v) :: env) rest w') :
    WL ro n P ops Q N env (⟨some d, .call { callee := .value x, args := args, argTypes := tys }, ty, pos, aft, some (j, b)⟩ :: rest) w := fun a ha => by
  have hN : d < N := Nat.le_of_ble_eq_true hd
  refine wpListIn_step fun K hK => ?_
  rw [if_pos (by simp [Region.wanted, yielded_of hj hdj ha hl])]
  refine ⟨fun _ _ => trivial, ?_⟩
  rw [Oper.semAt_eq _ _ _ (by intro c hc; simp only at hc; cases hc), exec_call he hx hv ha]
  refine ⟨fun h => by simp [fr, Fence.wide] at h, callsIn_fr (hc.mono ?_)⟩
  rintro e w' ⟨v, rfl, hb, hp⟩
  exact hK _ _ (h v w' hb (hS.ext hb) hp _ (ha.put hN v))

/-! part of a slice -/
def subA (A : Option Addr) (l sz c : Nat) : Option Addr := if c = l then A else A.map (·.add (l * sz))
theorem Sl.sub {xs : List α} {A : Option Addr} {l h c : Nat} (hs : Sl R M w A xs) (hc : xs.length ≤ c) (hlh : l ≤ h) (hh : h ≤ xs.length) : Sl R M w (subA A l R.sz c) ((xs.take h).drop l) := by
  by_cases hcl : c = l
  · exact .inl (by have : h ≤ l := by omega
                   rw [List.drop_eq_nil_of_le]; simp; omega)
  · unfold subA
    rw [if_neg hcl]
    rcases hs with hs | ⟨ad, rfl, hm, hs⟩
    · exact .inl (by rw [hs]; simp)
    · refine .inr ⟨_, rfl, by rw [addr_block]; exact hm, fun i x hx => ?_⟩
      rw [List.getElem?_drop, List.getElem?_take] at hx
      split at hx
      · obtain ⟨cs, hK, hc⟩ := hs (l + i) x hx
        exact ⟨cs, hK, fun j u hu => by rw [addr_add]; have := hc j u hu; rwa [Nat.add_mul, Nat.add_assoc] at this⟩
      · cases hx
theorem run_subslice {t : TypeId} {sz by_ : Nat} {z : Value} (ht : P.underlying t = some (.slice e)) (he : zinfo P e = some (z, sz, by_)) (A : Option Addr) (m c : Nat) (lo hi : Option Value) (l h : Nat)
    (hlo : (lo = none ∧ l = 0) ∨ ∃ k, lo = some (.int k l)) (hhi : (hi = none ∧ h = m) ∨ ∃ k, hi = some (.int k h)) (hlh : l ≤ h) (hhc : h ≤ c) (w : World) :
    (Instr.sliceAt t (.slice A m c) lo hi none).run P w = .ok (.slice (subA A l sz c) (h - l) (c - l)) w := by
  obtain ⟨inf, hinf, _, hs, _⟩ := zinfo_parts he
  have h1 : (0 : Int) ≤ (l : Int) ∧ (l : Int) ≤ (h : Int) := by omega
  have h2 : (0 : Int) ≤ (h : Int) ∧ (h : Int) ≤ (c : Int) := by omega
  rcases hlo with ⟨rfl, rfl⟩ | ⟨k, rfl⟩ <;> rcases hhi with ⟨rfl, rfl⟩ | ⟨k', rfl⟩ <;>
    simp [Instr.sliceAt, run_underlying ht, Instr.slice, Instr.sliceBounds, Instr.sliceBound, asIntOf, h1, h2, hlh, hhc, Go.sizeOf, typeInfo, hinf, hs, subA]
theorem R_slice {x : Operand} {lo hi : Option Operand} {t : TypeId} {sz by_ : Nat} {z : Value} (ht : P.underlying t = some (.slice e)) (he : zinfo P e = some (z, sz, by_)) {A : Option Addr} {m c l h : Nat} (hx : ev env x = some (.slice A m c))
    (hlo : (lo = none ∧ l = 0) ∨ ∃ k o, lo = some o ∧ ev env o = some (.int k l)) (hhi : (hi = none ∧ h = m) ∨ ∃ k o, hi = some o ∧ ev env o = some (.int k h)) (hlh : l ≤ h) (hhc : h ≤ c) :
    Runs P N env (.slice t x lo hi none) ty w (.slice (subA A l sz c) (h - l) (c - l)) w := fun a d pos aft g ha => by
  have hr := run_subslice (P := P) ht he A m c (lo.map a.eval) (hi.map a.eval) l h ?_ ?_ hlh hhc w
  · simp [execOp, ha.ev hx, hr]
  · rcases hlo with ⟨rfl, rfl⟩ | ⟨k, o, rfl, ho⟩
    · exact .inl ⟨rfl, rfl⟩
    · exact .inr ⟨k, by simp [ha.ev ho]⟩
  · rcases hhi with ⟨rfl, rfl⟩ | ⟨k, o, rfl, ho⟩
    · exact .inl ⟨rfl, rfl⟩
    · exact .inr ⟨k, by simp [ha.ev ho]⟩
theorem subA_zero (A : Option Addr) (sz c : Nat) : subA A 0 sz c = A := by
  unfold subA
  split
  · rfl
  · cases A <;> simp [Addr.add]
/-- the first h of an own row -/
theorem Sta.takeRow (hS : Sta w0 M L Fs w) (i : Nat) {A : Option Addr} {m c : Nat} {ys : List α} (hi : L[i]? = some (Row R e (.slice A m c) ys)) (h : Nat) (hh : h ≤ ys.length) :
    Sta w0 M (L.set i (Row R e (.slice A h c) (ys.take h))) Fs w := by
  refine hS.put i hi _ ⟨Nat.le_refl _, fun _ _ _ => rfl, fun k hk => .inl hk⟩ rfl rfl rfl (fun k hk => .inl (by cases A <;> exact hk)) fun M' hM => ?_
  obtain ⟨xs, ho, hE⟩ := (Row R e (.slice A m c) ys).step ⟨Nat.le_refl _, fun _ _ _ => rfl, hM⟩ (fun _ _ => rfl) (hS.res i hi)
  have hlen : (ys.take h).length = h := by simp; omega
  have hE' := hE.take h
  refine ⟨xs.take (h * R.sz), ?_, hE'⟩
  rw [hlen]
  refine ⟨by rw [hE'.length, hlen], ?_⟩
  rcases ho.2 with ⟨hv, h0⟩ | ⟨g, cap, cur, hv, hb, hh1, h1, h2, h3, h4⟩
  · simp only [Value.slice.injEq] at hv
    exact .inl ⟨by obtain ⟨rfl, _, rfl⟩ := hv; rw [show h = 0 by omega], by omega⟩
  · simp only [Value.slice.injEq] at hv
    obtain ⟨rfl, rfl, rfl⟩ := hv
    refine .inr ⟨g, c, cur, rfl, hb, hh1, by omega, h2, h3, ?_⟩
    rw [← h4, List.take_take]
    congr 1
    exact (Nat.min_eq_left (Nat.mul_le_mul_right _ hh)).symm

/-- a store into an own row -/
theorem WL.storeR (i : Nat) {t : TypeId} {bb : Bool} {x y : Operand} {A : Option Addr} {ad : Addr} {m c q : Nat} {ys : List α} {z : α} {v : Value} (cs : List Value) (ht : aggSz P t = some (bb, R.sz)) (hS : Sta w0 M L Fs w)
    (hi : L[i]? = some (Row R e (.slice A m c) ys)) (hA : A = some ad) (hx : ev env x = some (.pointer (some (ad.add (q * R.sz))))) (hq : q < ys.length) (hy : ev env y = some v) (hv : v.cells = cs.toArray) (hK : R.K (Mx M L) w z cs)
    (h : ∀ w', Sta w0 M (L.set i (Row R e (.slice A m c) (ys.set q z))) Fs w' → WL ro n P ops Q N env rest w') : WL ro n P ops Q N env (⟨none, .store t x y, ty, pos, aft, none⟩ :: rest) w := by
  subst hA
  obtain ⟨xs, ho, hE⟩ := hS.res i hi
  rcases ho.2 with ⟨hv', h0⟩ | ⟨g, cap, cur, hv', hb, hh1, h1, h2, h3, h4⟩
  · omega
  · simp only [Value.slice.injEq, Option.some.injEq] at hv'
    obtain ⟨rfl, rfl, rfl⟩ := hv'
    have hcl := R.len hK
    have hqs : q * R.sz + R.sz ≤ ys.length * R.sz := by rw [← Nat.succ_mul]; exact Nat.mul_le_mul_right _ hq
    have hcs : cur.toList.length = c * R.sz := by simpa using h3
    have hle : ys.length * R.sz ≤ c * R.sz := Nat.mul_le_mul_right _ h1
    obtain ⟨w', hr, hh, hsz, hoth, h2', h3', h4'⟩ := setCells_heap g e cs (q * R.sz) cur.toList w (by simpa using hh1) (by omega) (fun u hu => R.one hK u hu)
    refine WL.unit (fun a d pos aft gg ha => ?_) rfl (h w' ?_)
    · have e1 := (run_isAgg ht w).2
      have hr2 := hr P 0 (q * R.sz) (by omega)
      have e2 : ((⟨g, 0, none⟩ : Addr).add (q * R.sz)) = ⟨g, q * R.sz, none⟩ := by rw [add_plain, Nat.zero_add]
      simp [execOp, ha.ev hx, ha.ev hy, Instr.storeAt, Instr.sureAddr, storeVar, e1, hv, hcl, e2, hr2]
    · refine hS.put i hi _ ⟨by omega, fun k _ hk => hoth k (fun e => hk (by rw [e]; rfl)), fun k hk => .inl hk⟩ h2' h3' h4' (fun k hk => .inl hk) fun M' hM => ?_
      have hst : Stp (Mx M L) M' w w' := ⟨by omega, fun k _ hk => hoth k (fun e => hk (.inr ⟨_, List.mem_of_getElem? hi, by rw [e]; rfl⟩)), hM⟩
      have hE2 := (hE.set hq hK).step hst
      have hlen : (ys.set q z).length = ys.length := by simp
      refine ⟨_, ⟨by rw [hE2.length], .inr ⟨g, c, _, by rw [hlen], hb, hh, by rw [hlen]; exact h1, h2, ?_, ?_⟩⟩, hE2⟩
      · simp only [List.size_toArray, List.length_append, List.length_take, List.length_drop]
        omega
      · rw [hlen, ← h4, hcl]
        apply List.ext_getElem?
        intro j
        simp only [List.getElem?_take, List.getElem?_append, List.length_take, List.length_append, List.getElem?_drop, hcs]
        have m1 : min (q * R.sz) (c * R.sz) = q * R.sz := by omega
        have m2 : min (q * R.sz) (min (ys.length * R.sz) (c * R.sz)) = q * R.sz := by omega
        rw [m1, m2, hcl]
        by_cases ha : j < ys.length * R.sz
        · simp only [ha, if_true]
          by_cases hb1 : j < q * R.sz + R.sz
          · simp only [hb1, if_true]
          · simp only [hb1, if_false]
            rw [if_pos (by omega)]
        · simp only [ha, if_false]
          rw [if_neg (by omega), if_neg (by omega)]

/-! regions that draw their order, and only read -/
def QL (n : Nat) (P : Program) (ops : Array Oper) (C : World → Prop) (Qa : Act → Prop) (N : Nat) (env : Env) (l : List Oper) : Prop :=
  ∀ a, Ag N env a → wpQuietIn (fr none) n P ops C Qa l a
theorem askedIn_fr {o : Oper} {a : Act} {C : World → Prop} : o.askedIn (fr none) P a C := fun _ _ _ _ => trivial
theorem QL.nil {C : World → Prop} {Qa : Act → Prop} (h : ∀ a, Ag N env a → Qa a) : QL n P ops C Qa N env [] := h
theorem QL.val {C : World → Prop} {Qa : Act → Prop} {d : Nat} {op : Op} {v : Value} (hr : ∀ w', C w' → Runs P N env op ty w' v w') (hd : Nat.ble (d + 1) N = true)
    (h : QL n P ops C Qa N ((d, v) :: env) rest) : QL n P ops C Qa N env (⟨some d, op, ty, pos, aft, none⟩ :: rest) := fun a ha => by
  refine wpQuietIn_step askedIn_fr fun K hK => ?_
  rw [if_pos (by simp [Region.wanted])]
  exact ⟨v, fun w' hw' => by unfold Oper.quietAtIn; rw [hr w' hw' a _ _ _ _ ha]; exact ⟨rfl, rfl⟩, hK _ (h _ (ha.put (Nat.le_of_ble_eq_true hd) v))⟩
theorem QL.gval {C : World → Prop} {Qa : Act → Prop} {j dj : Nat} {oj : Oper} {b : Bool} {d : Nat} {op : Op} {v : Value} (hj : ops[j]? = some oj) (hdj : oj.dst = some dj) (hl : lk env dj = some (.bool b))
    (hr : ∀ w', C w' → Runs P N env op ty w' v w') (hd : Nat.ble (d + 1) N = true)
    (h : QL n P ops C Qa N ((d, v) :: env) rest) : QL n P ops C Qa N env (⟨some d, op, ty, pos, aft, some (j, b)⟩ :: rest) := fun a ha => by
  refine wpQuietIn_step askedIn_fr fun K hK => ?_
  rw [if_pos (by simp [Region.wanted, yielded_of hj hdj ha hl])]
  exact ⟨v, fun w' hw' => by unfold Oper.quietAtIn; rw [hr w' hw' a _ _ _ _ ha]; exact ⟨rfl, rfl⟩, hK _ (h _ (ha.put (Nat.le_of_ble_eq_true hd) v))⟩
theorem QL.gskip {C : World → Prop} {Qa : Act → Prop} {j dj : Nat} {oj : Oper} {b c : Bool} {d : Nat} {op : Op} (hj : ops[j]? = some oj) (hdj : oj.dst = some dj) (hl : lk env dj = some (.bool b)) (hbc : b = !c)
    (hd : Nat.ble (d + 1) N = true)
    (h : QL n P ops C Qa N ((d, undef) :: env) rest) : QL n P ops C Qa N env (⟨some d, op, ty, pos, aft, some (j, c)⟩ :: rest) := fun a ha => by
  refine wpQuietIn_step askedIn_fr fun K hK => ?_
  rw [if_neg (by simp [Region.wanted, yielded_of hj hdj ha hl, hbc])]
  exact hK _ (h _ (ha.put (Nat.le_of_ble_eq_true hd) undef))
theorem QL.gskipU {C : World → Prop} {Qa : Act → Prop} {j dj : Nat} {oj : Oper} {c : Bool} {d : Nat} {op : Op} (hj : ops[j]? = some oj) (hdj : oj.dst = some dj) (hl : lk env dj = some undef)
    (hd : Nat.ble (d + 1) N = true)
    (h : QL n P ops C Qa N ((d, undef) :: env) rest) : QL n P ops C Qa N env (⟨some d, op, ty, pos, aft, some (j, c)⟩ :: rest) := fun a ha => by
  refine wpQuietIn_step askedIn_fr fun K hK => ?_
  rw [if_neg (by simp [Region.wanted, yielded_undef hj hdj ha hl])]
  exact hK _ (h _ (ha.put (Nat.le_of_ble_eq_true hd) undef))
theorem QL.call {d : Nat} {f : FuncId} {x : Operand} {args : Array Operand} {vs caps : List Value} {tys : Array TypeId} {v : Value} {Qa : Act → Prop} (he : Go.Proofs.Enters P f) (hx : ev env x = some (.func (.func f) #[] caps.toArray)) (hv : args.toList.mapM (ev env) = some vs)
    (hc : ∀ w', Below w.heap.size w w' → Calls P f (vs ++ caps).toArray w' (Gives w' fun u _ => u = v)) (hd : Nat.ble (d + 1) N = true)
    (h : QL n P ops (Below w.heap.size w) Qa N ((d, v) :: env) rest) :
    QL n P ops (Below w.heap.size w) Qa N env (⟨some d, .call { callee := .value x, args := args, argTypes := tys }, ty, pos, aft, none⟩ :: rest) := fun a ha => by
  refine wpQuietIn_step askedIn_fr fun K hK => ?_
  rw [if_pos (by simp [Region.wanted])]
  refine ⟨v, fun w' hw' => ?_, hK _ (h _ (ha.put (Nat.le_of_ble_eq_true hd) v))⟩
  unfold Oper.quietAtIn
  rw [exec_call he hx hv ha]
  refine ⟨rfl, fun h => by simp [fr, Fence.wide] at h, callsIn_fr ((hc w' hw').mono ?_)⟩
  rintro e w'' ⟨u, rfl, hb, rfl⟩
  exact ⟨rfl, hw'.trans (hb.mono hw'.size)⟩
theorem QL.gcall {j dj : Nat} {oj : Oper} {b : Bool} {d : Nat} {f : FuncId} {x : Operand} {args : Array Operand} {vs caps : List Value} {tys : Array TypeId} {v : Value} {Qa : Act → Prop} (hj : ops[j]? = some oj) (hdj : oj.dst = some dj) (hl : lk env dj = some (.bool b))
    (he : Go.Proofs.Enters P f) (hx : ev env x = some (.func (.func f) #[] caps.toArray)) (hv : args.toList.mapM (ev env) = some vs)
    (hc : ∀ w', Below w.heap.size w w' → Calls P f (vs ++ caps).toArray w' (Gives w' fun u _ => u = v)) (hd : Nat.ble (d + 1) N = true)
    (h : QL n P ops (Below w.heap.size w) Qa N ((d, v) :: env) rest) :
    QL n P ops (Below w.heap.size w) Qa N env (⟨some d, .call { callee := .value x, args := args, argTypes := tys }, ty, pos, aft, some (j, b)⟩ :: rest) := fun a ha => by
  refine wpQuietIn_step askedIn_fr fun K hK => ?_
  rw [if_pos (by simp [Region.wanted, yielded_of hj hdj ha hl])]
  refine ⟨v, fun w' hw' => ?_, hK _ (h _ (ha.put (Nat.le_of_ble_eq_true hd) v))⟩
  unfold Oper.quietAtIn
  rw [exec_call he hx hv ha]
  refine ⟨rfl, fun h => by simp [fr, Fence.wide] at h, callsIn_fr ((hc w' hw').mono ?_)⟩
  rintro e w'' ⟨u, rfl, hb, rfl⟩
  exact ⟨rfl, hw'.trans (hb.mono hw'.size)⟩
theorem WC.draw {id : Nat} {l : List Oper} (hm : P.follows .mixedOrders = true) (hB : Region.lexB .any l.toArray = true) (hS : Sta w0 M L Fs w)
    (h : QL n P l.toArray (Below w.heap.size w) (fun a => ∀ w', Below w.heap.size w w' → Sta w0 M L Fs w' → Q .normal a w') N env l) : WC none n P Q N env (.region id l.toArray true) w := fun a ha => by
  refine wpIn_region_quiet (C := Below w.heap.size w) rfl hm hB ⟨rfl, rfl, rfl, Nat.le_refl _, fun _ _ => rfl⟩ ?_
  have h1 := h a ha
  have mono : ∀ (l' : List Oper) (a : Act), wpQuietIn (fr none) n P l.toArray (Below w.heap.size w) (fun a => ∀ w', Below w.heap.size w w' → Sta w0 M L Fs w' → Q .normal a w') l' a →
      wpQuietIn (fr none) n P l.toArray (Below w.heap.size w) (fun a => ∀ w', Below w.heap.size w w' → Q .normal a w') l' a := by
    intro l'
    induction l' with
    | nil => intro a h w' hw'; exact h w' hw' (hS.ext hw')
    | cons o r ih =>
      intro a h
      refine ⟨h.1, ?_⟩
      have h2 := h.2
      split
      · rename_i hw; rw [if_pos hw] at h2; obtain ⟨v, hv, hk⟩ := h2; exact ⟨v, hv, ih _ hk⟩
      · rename_i hw; rw [if_neg hw] at h2; exact ih _ h2
  exact mono _ _ h1
end
end TK
