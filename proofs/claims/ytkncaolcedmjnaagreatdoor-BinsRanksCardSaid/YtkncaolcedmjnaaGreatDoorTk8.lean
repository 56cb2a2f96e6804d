/- Words for walks over any program of the model: no statement of a law stands here. -/
import Derived.Test.YtkncaolcedmjnaaGreatDoorTk7
import Derived.Lib.Bits
open Go Go.RowKit
namespace TK

/-! plain words -/
inductive Fl (ρ σ : Type) where
  | ret (r : ρ)
  | go (s : σ)
def rd {α : Type} (xs : List α) (i : Int) : Option α := if 0 ≤ i then xs[i.toNat]? else none
theorem rdS {α : Type} {xs : List α} {i : Int} {x : α} (h : rd xs i = some x) : 0 ≤ i ∧ i.toNat < xs.length ∧ xs[i.toNat]? = some x := by
  unfold rd at h
  split at h
  · exact ⟨by assumption, (List.getElem?_eq_some_iff.1 h).1, h⟩
  · cases h
theorem bindS {α β : Type} {o : Option α} {f : α → Option β} {r : β} (h : o.bind f = some r) : ∃ x, o = some x ∧ f x = some r := Option.bind_eq_some_iff.1 h
theorem grdS {α : Type} {c : Prop} [Decidable c] {a : Option α} {r : α} (h : (if c then a else none) = some r) : c ∧ a = some r := by
  split at h
  · exact ⟨by assumption, h⟩
  · cases h
theorem boolS {α : Type} {b : Bool} {x y : Option α} {r : Option α} (h : (if b = true then x else y) = r) : (b = true ∧ x = r) ∨ (b = false ∧ y = r) := by
  cases b
  · exact .inr ⟨rfl, by simpa using h⟩
  · exact .inl ⟨rfl, by simpa using h⟩
theorem ifT {α : Type} {b : Bool} {x y : Option α} {r : Option α} (hb : b = true) (h : (if b = true then x else y) = r) : x = r := by rwa [if_pos hb] at h
theorem ifF {α : Type} {b : Bool} {x y : Option α} {r : Option α} (hb : b = false) (h : (if b = true then x else y) = r) : y = r := by rwa [if_neg (by simp [hb])] at h

section
variable {ro : Option Nat} {n : Nat} {P : Program} {Q : Exit → Act → World → Prop} {N : Nat} {env env' : Env} {w0 w w' : World} {ops : Array Oper} {ty : TypeId} {pos : String} {aft : Array Edge} {rest : List Oper}
variable {M : MSet} {L : List Res} {Fs : List Fact} {α : Type} {R : Rep α} {e : TypeId}

theorem WC.seqM {x y : Code} (J : Env → World → Prop) (h1 : WC ro n P (Exit.then (fun a w => ∃ env', Ag N env' a ∧ J env' w) Q) N env x w) (h2 : ∀ env' w, J env' w → WC ro n P Q N env' y w) : WC ro n P Q N env (x.seq y) w := by
  refine WC.seq (WC.mid (fun a w => ∃ env', Ag N env' a ∧ J env' w) (fun a ha => ?_) fun a w ⟨env', ha, hJ⟩ => h2 env' w hJ a ha)
  exact wpIn_mono (h1 a ha) fun e a w h => by cases e <;> exact h
theorem WQ.toJ {J : Env → World → Prop} {env' : Env} (hJ : J env' w) (hs : Sub env env') : WQ (Exit.then (fun a w => ∃ env', Ag N env' a ∧ J env' w) Q) .normal N env w :=
  fun a ha => ⟨env', ha.keep hs, hJ⟩
theorem WC.loopJ {c : Code} (I : Nat → Env → World → Prop) (m : Nat) {env0 : Env} (h0 : I m env0 w) (hs : Sub env env0) (zero : ∀ env w, ¬ I 0 env w)
    (round : ∀ m env w, I (m + 1) env w → WC ro n P (Exit.then (fun a w => ∃ env', Ag N env' a ∧ I m env' w) Q) N env c w) : WC ro n P Q N env (.loop c) w :=
  WC.loopI I m env0 hs h0 zero round

/-! guards, by a test's outcome -/
theorem WL.gvalb {j dj : Nat} {oj : Oper} {b c : Bool} {d : Nat} {op : Op} {v : Value}
    (hj : ops[j]? = some oj) (hdj : oj.dst = some dj) (hl : lk env dj = some (.bool b)) (hb : b = c) (hr : Runs P N env op ty w v w')
    (hd : Nat.ble (d + 1) N = true) (hnd : isDefer op = false)
    (h : WL ro n P ops Q N ((d, v) :: env) rest w') : WL ro n P ops Q N env (⟨some d, op, ty, pos, aft, some (j, c)⟩ :: rest) w := by
  subst hb; exact WL.gval hj hdj hl hr hd hnd h
theorem WL.gskipb {j dj : Nat} {oj : Oper} {b c : Bool} {d : Nat} {op : Op}
    (hj : ops[j]? = some oj) (hdj : oj.dst = some dj) (hl : lk env dj = some (.bool b)) (hb : b = !c) (hd : Nat.ble (d + 1) N = true)
    (h : WL ro n P ops Q N ((d, undef) :: env) rest w) : WL ro n P ops Q N env (⟨some d, op, ty, pos, aft, some (j, c)⟩ :: rest) w := WL.gskip hj hdj hl hb hd h
theorem QL.gvalb {C : World → Prop} {Qa : Act → Prop} {j dj : Nat} {oj : Oper} {b c : Bool} {d : Nat} {op : Op} {v : Value} (hj : ops[j]? = some oj) (hdj : oj.dst = some dj) (hl : lk env dj = some (.bool b)) (hb : b = c)
    (hr : ∀ w', C w' → Runs P N env op ty w' v w') (hd : Nat.ble (d + 1) N = true)
    (h : QL n P ops C Qa N ((d, v) :: env) rest) : QL n P ops C Qa N env (⟨some d, op, ty, pos, aft, some (j, c)⟩ :: rest) := by
  subst hb; exact QL.gval hj hdj hl hr hd h
theorem R_pickTb {c x y : Operand} {b : Bool} {u : Value} (hc : ev env c = some (.bool b)) (hb : b = true) (hx : ev env x = some u) :
    Runs P N env (.pick c x y) ty w u w := by subst hb; exact R_pickT hc hx
theorem R_pickFb {c x y : Operand} {b : Bool} {v : Value} (hc : ev env c = some (.bool b)) (hb : b = false) (hy : ev env y = some v) :
    Runs P N env (.pick c x y) ty w v w := by subst hb; exact R_pickF hc hy
theorem R_fieldB {x : Operand} {s f off b j : Nat} (hf : fieldOff P s f = some off) (hx : ev env x = some (.pointer (some ⟨b, j, none⟩))) :
    Runs P N env (.fieldAddr s x f) ty w (.pointer (some ⟨b, j + off, none⟩)) w := by
  have h := R_fieldAddr (P := P) (N := N) (env := env) (w := w) (ty := ty) hf hx
  rwa [add_plain] at h
theorem R_indexB {x ix : Operand} {t e : TypeId} {sz by_ : Nat} {z : Value} {b o m c : Nat} {k : IntKind} {i : Int}
    (ht : P.underlying t = some (.slice e)) (he : zinfo P e = some (z, sz, by_)) (hx : ev env x = some (.slice (some ⟨b, o, none⟩) m c)) (hi : ev env ix = some (.int k i)) (h0 : 0 ≤ i) (h1 : i.toNat < m) :
    Runs P N env (.indexAddr t x ix) ty w (.pointer (some ⟨b, o + i.toNat * sz, none⟩)) w := by
  have h := R_indexAddr (P := P) (N := N) (env := env) (w := w) (ty := ty) ht he hx hi rfl h0 h1
  rwa [add_plain] at h

/-! what a drawn region reads -/
theorem lat {w w' : World} (hb : Below w.heap.size w w') {a : Addr} {v : Value} (hc : w.cell? a = some v) : w'.cell? a = some v :=
  (World.cell?_of_block (hb.block a.block (World.block_lt_of_cell? w a hc))).trans hc
theorem lats {w w' : World} (hb : Below w.heap.size w w') {p : Addr} {cs : List Value} (hc : ∀ j u, cs[j]? = some u → w.cell? (p.add j) = some u) : ∀ j u, cs[j]? = some u → w'.cell? (p.add j) = some u :=
  fun j u hu => lat hb (hc j u hu)
theorem Blk.cells {B : Nat} {w : World} {M : MSet} {b : Nat} {cs : List Value} {T : TypeId} (h : (Blk b cs T).ok B M w) (o m : Nat) {ds : List Value} (hds : (cs.drop o).take m = ds) : ∀ k u, ds[k]? = some u → w.cell? ((⟨b, o, none⟩ : Addr).add k) = some u := fun k u hk => by
  rw [add_plain]
  refine Blk.cell h ?_
  subst hds
  rw [List.getElem?_take] at hk
  split at hk
  · rw [List.getElem?_drop] at hk; exact hk
  · cases hk
theorem QL.last (h : ∀ w', Below w.heap.size w w' → Sta w0 M L Fs w' → WQ Q .normal N env w') : QL n P ops (Below w.heap.size w) (fun a => ∀ w', Below w.heap.size w w' → Sta w0 M L Fs w' → Q .normal a w') N env [] :=
  fun a ha w' hb hS => h w' hb hS a ha

/-! results -/
def resV (P : Program) (w : World) (env : Env) : ResultVar → Value → Prop
  | .tmp t, v => lk env t = some v
  | .cell t T, v => ∃ p b m cs, lk env t = some (.pointer (some p)) ∧ aggSz P T = some (b, m) ∧ cs.length = m ∧ (∀ j u, cs[j]? = some u → w.cell? (p.add j) = some u) ∧ (if b then v = .agg cs.toArray else cs = [v])
def rv1 (tmps : Array Value) (r : ResultVar) : Sem Value :=
  match r with
  | .tmp t => pure (tmps.getD t undef)
  | .cell a t => do loadVar t (← asAddr (tmps.getD a undef))
theorem results_rv (fn : Func) (tmps : Array Value) : results fn tmps = (do
    let vs ← fn.results.mapM (rv1 tmps)
    pure (if h : vs.size = 1 then vs[0] else .tuple vs)) := by
  unfold results
  congr 1
theorem resV_run {a : Act} (ha : Ag N env a) : ∀ {r : ResultVar} {v : Value}, resV P w env r v → (rv1 a.tmps r).run P w = .ok v w
  | .tmp t, v, h => by
    have : a.tmps.getD t undef = v := by rw [← ha.ev (x := .tmp t) h]; rfl
    simp only [rv1, this]; rfl
  | .cell t T, v, ⟨p, b, m, cs, h1, h2, h3, h4, h5⟩ => by
    have e1 : a.tmps.getD t undef = .pointer (some p) := by rw [← ha.ev (x := .tmp t) h1]; rfl
    have hl := run_loadCells_list (P := P) (w := w) p cs h4
    rw [h3] at hl
    cases b
    · simp only [Bool.false_eq_true, if_false] at h5
      subst h5
      have hc := h4 0 v rfl
      have hp : p.add 0 = p := by simp [Addr.add]
      rw [hp] at hc
      simp only [rv1, e1]
      simp [asAddr, loadVar, (run_isAgg h2 w).1, Go.load, Sem.run, hc]
    · simp only [if_true] at h5
      subst h5
      simp only [rv1, e1]
      simp [asAddr, loadVar, (run_isAgg h2 w).1, (run_isAgg h2 w).2, hl]
theorem ret_1 {fn : Func} {r1 : ResultVar} {v1 : Value} {R : Ending → World → Prop} (hf : fn.results = #[r1]) (h1 : resV P w env r1 v1) (hR : R (.returned v1) w) : WQ (bodyPost P fn R) .ret N env w := fun a ha =>
  ⟨ha.dfr, v1, by rw [results_rv, hf]; simp [resV_run ha h1], hR⟩
theorem ret_2 {fn : Func} {r1 r2 : ResultVar} {v1 v2 : Value} {R : Ending → World → Prop} (hf : fn.results = #[r1, r2]) (h1 : resV P w env r1 v1) (h2 : resV P w env r2 v2) (hR : R (.returned (.tuple #[v1, v2])) w) : WQ (bodyPost P fn R) .ret N env w := fun a ha =>
  ⟨ha.dfr, _, by rw [results_rv, hf]; simp [resV_run ha h1, resV_run ha h2], hR⟩
theorem ret_3 {fn : Func} {r1 r2 r3 : ResultVar} {v1 v2 v3 : Value} {R : Ending → World → Prop} (hf : fn.results = #[r1, r2, r3]) (h1 : resV P w env r1 v1) (h2 : resV P w env r2 v2) (h3 : resV P w env r3 v3) (hR : R (.returned (.tuple #[v1, v2, v3])) w) : WQ (bodyPost P fn R) .ret N env w := fun a ha =>
  ⟨ha.dfr, _, by rw [results_rv, hf]; simp [resV_run ha h1, resV_run ha h2, resV_run ha h3], hR⟩
/-- a struct that stands in a block of the call's own -/
theorem resV_B (i : Nat) {t T b m : Nat} {cs : List Value} {T' : TypeId} (hS : Sta w0 M L Fs w) (hi : L[i]? = some (Blk b cs T')) (ht : lk env t = some (.pointer (some ⟨b, 0, none⟩))) (ha : aggSz P T = some (true, m)) (hm : cs.length = m) :
    resV P w env (.cell t T) (.agg cs.toArray) :=
  ⟨_, true, m, cs, ht, ha, hm, Blk.cells (hS.res i hi) 0 m (by rw [List.drop_zero, ← hm, List.take_length]), rfl⟩
theorem resV_B1 (i : Nat) {t T b m : Nat} {v : Value} {T' : TypeId} (hS : Sta w0 M L Fs w) (hi : L[i]? = some (Blk b [v] T')) (ht : lk env t = some (.pointer (some ⟨b, 0, none⟩))) (ha : aggSz P T = some (false, m)) (hm : 1 = m) :
    resV P w env (.cell t T) v :=
  ⟨_, false, m, [v], ht, ha, hm, Blk.cells (hS.res i hi) 0 1 rfl, rfl⟩
end
end TK
