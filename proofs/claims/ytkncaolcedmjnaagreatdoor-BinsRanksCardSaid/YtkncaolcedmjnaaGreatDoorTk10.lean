/- Words for walks over any program of the model: no statement of a law stands here. -/
import Derived.Test.YtkncaolcedmjnaaGreatDoorTk9
open Go Go.RowKit
namespace TK
theorem mapS {α β : Type} {o : Option α} {f : α → β} {r : β} (h : o.map f = some r) : ∃ x, o = some x ∧ r = f x := by
  obtain ⟨x, h1, h2⟩ := Option.map_eq_some_iff.1 h; exact ⟨x, h1, h2.symm⟩
theorem pickS {b : Bool} {α : Type} {x y : α} (hb : b = true) : (if b = true then x else y) = x := if_pos hb
section
variable {ro : Option Nat} {n : Nat} {P : Program} {Q : Exit → Act → World → Prop} {N : Nat} {env env' : Env} {w0 w w' : World} {ops : Array Oper} {ty : TypeId} {pos : String} {aft : Array Edge} {rest : List Oper}
variable {M : MSet} {L : List Res} {Fs : List Fact} {α : Type} {R : Rep α} {e : TypeId}

/-- rounds of a loop, taken one by one -/
def WR (ro : Option Nat) (n : Nat) (P : Program) (Q : Exit → Act → World → Prop) (N : Nat) (env : Env) (c : Code) (m : Nat) (w : World) : Prop :=
  ∀ a, Ag N env a → Code.roundsIn (fr ro) n P c Q m a w
theorem WC.loopR {c : Code} (m : Nat) (h : WR ro n P Q N env c m w) : WC ro n P Q N env (.loop c) w := WC.loop m h
theorem WR.step {c : Code} {m : Nat} (h : WC ro n P (Exit.then (Code.roundsIn (fr ro) n P c Q m) Q) N env c w) : WR ro n P Q N env c (m + 1) w := fun a ha => by
  rw [roundsIn_succ]; exact h a ha
theorem WQ.thenW {c : Code} {m : Nat} (h : WR ro n P Q N env c m w) : WQ (Exit.then (Code.roundsIn (fr ro) n P c Q m) Q) .normal N env w := h
theorem Row.room {B : Nat} {A : Option Addr} {m c : Nat} {ys : List α} (h : (Row R e (.slice A m c) ys).ok B M w) : m ≤ c := by
  obtain ⟨A', c', h, h2⟩ := Row.slice h
  simp only [Value.slice.injEq] at h
  omega
theorem R_sliceAll {x : Operand} {t : TypeId} {sz by_ : Nat} {z : Value} (ht : P.underlying t = some (.slice e)) (he : zinfo P e = some (z, sz, by_)) {A : Option Addr} {m c : Nat} (hx : ev env x = some (.slice A m c))
    (hc : m ≤ c) : Runs P N env (.slice t x none none none) ty w (.slice A m c) w := by
  have := R_slice (P := P) (N := N) (env := env) (w := w) (ty := ty) ht he hx (lo := none) (hi := none) (l := 0) (h := m) (.inl ⟨rfl, rfl⟩) (.inl ⟨rfl, rfl⟩) (Nat.zero_le _) hc
  simpa [subA_zero] using this
theorem Sta.subHi (hS : Sta w0 M L Fs w) (i : Nat) {A : Option Addr} {c : Nat} {xs : List α} (hi : Fs[i]? = some (FSl R A c xs)) (h : Nat) (hh : h ≤ xs.length) :
    Sta w0 M L (FSl R A c (xs.take h) :: Fs) w := by
  have h1 := hS.subF i hi 0 h (Nat.zero_le _) hh
  simpa [subA_zero] using h1
theorem Sta.subLo (hS : Sta w0 M L Fs w) (i : Nat) {A : Option Addr} {c : Nat} {xs : List α} (hi : Fs[i]? = some (FSl R A c xs)) (l : Nat) (hl : l ≤ xs.length) :
    Sta w0 M L (FSl R (subA A l R.sz c) (c - l) (xs.drop l) :: Fs) w := by
  have h1 := hS.subF i hi l xs.length hl (Nat.le_refl _)
  simpa using h1
theorem R_lenStr {x : Operand} {t : TypeId} {b : ByteArray} (ht : P.underlying t = some .string) (hx : ev env x = some (.string b)) :
    Runs P N env (.call { callee := .builtin .len, args := #[x], argTypes := #[t] }) ty w (.int .i64 b.size) w := fun a d pos aft g ha => by
  simp [execOp, ha.ev hx, resolve, invoke, builtin, Builtin.len_, run_underlying ht, goInt]
/-- a store into a field of a row's element -/
theorem WL.storeRF (i off : Nat) {t : TypeId} {bb : Bool} {sz1 : Nat} {x y : Operand} {A : Option Addr} {ad : Addr} {m c q : Nat} {ys : List α} {z : α} {v : Value} (ds cs' : List Value) {cs : List Value} (ht : aggSz P t = some (bb, sz1)) (hS : Sta w0 M L Fs w)
    (hi : L[i]? = some (Row R e (.slice A m c) ys)) (hA : A = some ad) (hx : ev env x = some (.pointer (some ((ad.add (q * R.sz)).add off)))) (hq : q < ys.length) (hy : ev env y = some v) (hv : v.cells = ds.toArray) (hm : ds.length = sz1)
    (hc : ∀ j u, cs[j]? = some u → w.cell? ((ad.add (q * R.sz)).add j) = some u) (hcs : cs.take off ++ ds ++ cs.drop (off + sz1) = cs') (hlen : cs.length = R.sz) (hoff : Nat.ble (off + sz1) R.sz = true) (hK : R.K (Mx M L) w z cs')
    (h : ∀ w', Sta w0 M (L.set i (Row R e (.slice A m c) (ys.set q z))) Fs w' → WL ro n P ops Q N env rest w') : WL ro n P ops Q N env (⟨none, .store t x y, ty, pos, aft, none⟩ :: rest) w := by
  subst hA
  have hoff' : off + sz1 ≤ R.sz := Nat.le_of_ble_eq_true hoff
  obtain ⟨xs, ho, hE⟩ := hS.res i hi
  rcases ho.2 with ⟨hv', h0⟩ | ⟨g, cap, cur, hv', hb, hh1, h1, h2, h3, h4⟩
  · omega
  · simp only [Value.slice.injEq, Option.some.injEq] at hv'
    obtain ⟨rfl, rfl, rfl⟩ := hv'
    have hcl := R.len hK
    have hqs : q * R.sz + R.sz ≤ ys.length * R.sz := by rw [← Nat.succ_mul]; exact Nat.mul_le_mul_right _ hq
    have hcsz : cur.toList.length = c * R.sz := by simpa using h3
    have hle : ys.length * R.sz ≤ c * R.sz := Nat.mul_le_mul_right _ h1
    have hone : ∀ u ∈ ds, u.oneCell' = true := fun u hu => R.one hK u (by rw [← hcs]; simp [hu])
    obtain ⟨w', hr, hh, hsz, hoth, h2', h3', h4'⟩ := setCells_heap g e ds (q * R.sz + off) cur.toList w (by simpa using hh1) (by omega) hone
    -- the element as it lies
    have hat : ∀ j, j < R.sz → cur.toList[q * R.sz + j]? = cs[j]? := by
      intro j hj
      have hj' : j < cs.length := by omega
      have := hc j cs[j] (List.getElem?_eq_getElem hj')
      rw [add_plain, add_plain] at this
      simp only [World.cell?, hh1, Nat.zero_add] at this
      rw [List.getElem?_eq_getElem hj', ← this]
      simp
    have hnew : cur.toList.take (q * R.sz + off) ++ ds ++ cur.toList.drop (q * R.sz + off + ds.length) = cur.toList.take (q * R.sz) ++ cs' ++ cur.toList.drop (q * R.sz + cs'.length) := by
      apply List.ext_getElem?
      intro j
      have hcl' : cs'.length = R.sz := hcl
      have e3 : ∀ j : Nat, cs'[j]? = (cs.take off ++ ds ++ cs.drop (off + sz1))[j]? := fun j => by rw [hcs]
      simp only [List.getElem?_append, List.length_take, List.length_append, List.getElem?_take, List.getElem?_drop, hcsz, hcl', e3, hm, hlen]
      have m1 : min (q * R.sz + off) (c * R.sz) = q * R.sz + off := by omega
      have m2 : min (q * R.sz) (c * R.sz) = q * R.sz := by omega
      have m3 : min off R.sz = off := by omega
      rw [m1, m2, m3]
      by_cases c1 : j < q * R.sz
      · simp only [show j < q * R.sz + off + sz1 by omega, show j < q * R.sz + off by omega, show j < q * R.sz + R.sz by omega, c1, if_true]
      · by_cases c2 : j < q * R.sz + R.sz
        · obtain ⟨d, rfl⟩ : ∃ d, j = q * R.sz + d := ⟨j - q * R.sz, by omega⟩
          have hd : d < R.sz := by omega
          have e4 : q * R.sz + d - q * R.sz = d := by omega
          simp only [e4, c1, c2, if_true, if_false]
          by_cases c3 : d < off
          · simp only [show q * R.sz + d < q * R.sz + off + sz1 by omega, show q * R.sz + d < q * R.sz + off by omega, show d < off + sz1 by omega, c3, if_true]
            exact hat d hd
          · by_cases c4 : d < off + sz1
            · simp only [show q * R.sz + d < q * R.sz + off + sz1 by omega, show ¬ q * R.sz + d < q * R.sz + off by omega, c3, c4, if_true, if_false]
              congr 1; omega
            · simp only [show ¬ q * R.sz + d < q * R.sz + off + sz1 by omega, c4, if_false]
              rw [show q * R.sz + off + sz1 + (q * R.sz + d - (q * R.sz + off + sz1)) = q * R.sz + d by omega, show off + sz1 + (d - (off + sz1)) = d by omega]
              exact hat d hd
        · simp only [show ¬ j < q * R.sz + off + sz1 by omega, c2, if_false]
          rw [show q * R.sz + off + sz1 + (j - (q * R.sz + off + sz1)) = j by omega, show q * R.sz + R.sz + (j - (q * R.sz + R.sz)) = j by omega]
    rw [hnew] at hh
    refine WL.unit (fun a d pos aft gg ha => ?_) rfl (h w' ?_)
    · have e1 := (run_isAgg ht w).2
      have hr2 := hr P 0 (q * R.sz + off) (by omega)
      have e2 : (((⟨g, 0, none⟩ : Addr).add (q * R.sz)).add off) = ⟨g, q * R.sz + off, none⟩ := by rw [add_plain, add_plain, Nat.zero_add]
      simp [execOp, ha.ev hx, ha.ev hy, Instr.storeAt, Instr.sureAddr, storeVar, e1, hv, hm, e2, hr2]
    · refine hS.put i hi _ ⟨by omega, fun k _ hk => hoth k (fun e => hk (by rw [e]; rfl)), fun k hk => .inl hk⟩ h2' h3' h4' (fun k hk => .inl hk) fun M' hM => ?_
      have hst : Stp (Mx M L) M' w w' := ⟨by omega, fun k _ hk => hoth k (fun e => hk (.inr ⟨_, List.mem_of_getElem? hi, by rw [e]; rfl⟩)), hM⟩
      have hE2 := (hE.set hq hK).step hst
      have hlen2 : (ys.set q z).length = ys.length := by simp
      refine ⟨_, ⟨by rw [hE2.length], .inr ⟨g, c, _, by rw [hlen2], hb, hh, by rw [hlen2]; exact h1, h2, ?_, ?_⟩⟩, hE2⟩
      · simp only [List.size_toArray, List.length_append, List.length_take, List.length_drop]
        omega
      · rw [hlen2, ← h4, hcl]
        apply List.ext_getElem?
        intro j
        simp only [List.getElem?_take, List.getElem?_append, List.length_take, List.length_append, List.getElem?_drop, hcsz]
        have m1 : min (q * R.sz) (c * R.sz) = q * R.sz := by omega
        have m2 : min (q * R.sz) (min (ys.length * R.sz) (c * R.sz)) = q * R.sz := by omega
        rw [m1, m2, hcl]
        by_cases ha : j < ys.length * R.sz
        · simp only [ha, if_true]
          by_cases hb1 : j < q * R.sz + R.sz
          · simp only [hb1, if_true]
          · simp only [hb1, if_false]
            rw [if_pos (by omega)]
        · simp only [ha, if_false]
          rw [if_neg (by omega), if_neg (by omega)]
end
end TK
