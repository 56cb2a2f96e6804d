/- Words for walks over any program of the model: no statement of a law stands here. -/
import Derived.Test.YtkncaolcedmjnaaGreatDoorTk1
open Go Go.RowKit
namespace TK

abbrev fr (ro : Option Nat) : Fence := { Fence.wide with round := ro }
theorem fr_fn (ro : Option Nat) (f : FuncId) : (fr ro).fn f := trivial
theorem callsIn_fr {ro : Option Nat} {n : Nat} {P : Program} {f : FuncId} {args : Array Value} {w : World} {R : Ending → World → Prop}
    (h : Calls P f args w R) : CallsIn (fr ro) n P f args w R := (callsIn_wide (n := n)).2 h

/-- code, whatever the frame, if it shows env -/
def WC (ro : Option Nat) (n : Nat) (P : Program) (Q : Exit → Act → World → Prop) (N : Nat) (env : Env) (c : Code) (w : World) : Prop :=
  ∀ a, Ag N env a → c.wpIn (fr ro) n P Q a w
def WL (ro : Option Nat) (n : Nat) (P : Program) (ops : Array Oper) (Q : Exit → Act → World → Prop) (N : Nat) (env : Env) (l : List Oper) (w : World) : Prop :=
  ∀ a, Ag N env a → wpListIn (fr ro) n P ops Q l a w
def WQ (Q : Exit → Act → World → Prop) (e : Exit) (N : Nat) (env : Env) (w : World) : Prop := ∀ a, Ag N env a → Q e a w
/-- an operation's run -/
def Runs (P : Program) (N : Nat) (env : Env) (op : Op) (ty : TypeId) (w : World) (v : Value) (w' : World) : Prop :=
  ∀ a d pos aft g, Ag N env a → (execOp a.eval ⟨d, op, ty, pos, aft, g⟩).run P w = .ok (.value v) w'
def RunsU (P : Program) (N : Nat) (env : Env) (op : Op) (ty : TypeId) (w : World) (w' : World) : Prop :=
  ∀ a d pos aft g, Ag N env a → (execOp a.eval ⟨d, op, ty, pos, aft, g⟩).run P w = .ok .skip w'
def isDefer : Op → Bool
  | .defer _ => true
  | _ => false

section
variable {ro : Option Nat} {n : Nat} {P : Program} {Q Q' : Exit → Act → World → Prop} {N : Nat} {env env' : Env} {w w' : World} {ops : Array Oper}

theorem WC.keep {c : Code} (env' : Env) (hs : Sub env env') (h : WC ro n P Q N env' c w) : WC ro n P Q N env c w := fun a ha => h a (ha.keep hs)
theorem WL.keep {l : List Oper} (env' : Env) (hs : Sub env env') (h : WL ro n P ops Q N env' l w) : WL ro n P ops Q N env l w := fun a ha => h a (ha.keep hs)
theorem WQ.keep {e : Exit} (env' : Env) (hs : Sub env env') (h : WQ Q e N env' w) : WQ Q e N env w := fun a ha => h a (ha.keep hs)

theorem WC.seq {x y : Code} (h : WC ro n P (Exit.then (fun a w => y.wpIn (fr ro) n P Q a w) Q) N env x w) : WC ro n P Q N env (.seq x y) w :=
  fun a ha => wpIn_seq (h a ha)
theorem WC.reg {id : Nat} {l : List Oper} (h : WL ro n P l.toArray Q N env l w) : WC ro n P Q N env (.region id l.toArray false) w :=
  fun a ha => wpIn_region_lit (h a ha)
theorem WC.skip (h : WQ Q .normal N env w) : WC ro n P Q N env .skip w := fun a ha => wpIn_skip (h a ha)
theorem WC.ret (h : WQ Q .ret N env w) : WC ro n P Q N env .ret w := fun a ha => wpIn_ret (h a ha)
theorem WC.exit {id : Nat} (h : WQ Q (.exit id) N env w) : WC ro n P Q N env (.exit id) w := fun a ha => wpIn_exit (h a ha)
theorem WC.block {id : Nat} {c : Code} (h : WC ro n P (Exit.inBlock id Q) N env c w) : WC ro n P Q N env (.block id c) w :=
  fun a ha => wpIn_block (h a ha)
theorem WC.cond {c : Operand} {x y : Code} {b : Bool} (hc : ev env c = some (.bool b)) (ht : b = true → WC ro n P Q N env x w) (hf : b = false → WC ro n P Q N env y w) :
    WC ro n P Q N env (.cond c x y) w := fun a ha => by
  refine wpIn_cond (t := b) (ha.ev hc) ?_
  cases b
  · exact hf rfl a ha
  · exact ht rfl a ha
theorem WC.condT {c : Operand} {x y : Code} (hc : ev env c = some (.bool true)) (ht : WC ro n P Q N env x w) : WC ro n P Q N env (.cond c x y) w :=
  WC.cond hc (fun _ => ht) (fun h => by cases h)
theorem WC.condF {c : Operand} {x y : Code} (hc : ev env c = some (.bool false)) (hf : WC ro n P Q N env y w) : WC ro n P Q N env (.cond c x y) w :=
  WC.cond hc (fun h => by cases h) (fun _ => hf)
theorem WC.loop {c : Code} (m : Nat) (h : ∀ a, Ag N env a → Code.roundsIn (fr ro) n P c Q m a w) : WC ro n P Q N env (.loop c) w :=
  fun a ha => wpIn_loop_rounds m (h a ha)
/-- a loop: what holds at its head, with the rounds that are left -/
theorem WC.loopI {c : Code} (I : Nat → Env → World → Prop) (m : Nat) (env0 : Env) (hs : Sub env env0) (h0 : I m env0 w) (zero : ∀ env w, ¬ I 0 env w)
    (round : ∀ m env w, I (m + 1) env w → WC ro n P (Exit.then (fun a w => ∃ env', Ag N env' a ∧ I m env' w) Q) N env c w) : WC ro n P Q N env (.loop c) w := by
  refine WC.keep env0 hs (WC.loop m ?_)
  have key : ∀ m env w, I m env w → ∀ a, Ag N env a → Code.roundsIn (fr ro) n P c Q m a w := by
    intro m
    induction m with
    | zero => intro env w h; exact absurd h (zero env w)
    | succ m ih =>
      intro env w h a ha
      rw [roundsIn_succ]
      refine wpIn_mono (round m env w h a ha) fun e a w h => ?_
      cases e <;> first | exact h | (obtain ⟨env', ha', hI⟩ := h; exact ih env' w hI a ha')
  exact key m env0 w h0
/-- a way's meeting point -/
theorem WC.mid {c : Code} (J : Act → World → Prop) (h1 : WC ro n P (Exit.then J Q) N env c w) (h2 : ∀ a w, J a w → Q .normal a w) : WC ro n P Q N env c w :=
  fun a ha => wpIn_mono (h1 a ha) fun e a w h => by cases e <;> first | exact h2 a w h | exact h
theorem WL.mid {id : Nat} {l : List Oper} (J : Act → World → Prop) (h1 : WL ro n P l.toArray (Exit.then J Q) N env l w) (h2 : ∀ a w, J a w → Q .normal a w) :
    WC ro n P Q N env (.region id l.toArray false) w := WC.mid J (WC.reg h1) h2

theorem WL.nil (h : WQ Q .normal N env w) : WL ro n P ops Q N env [] w := fun a ha => h a ha

theorem WL.val {d : Nat} {op : Op} {ty : TypeId} {pos : String} {aft : Array Edge} {rest : List Oper} {v : Value} (hr : Runs P N env op ty w v w')
    (hd : Nat.ble (d + 1) N = true) (hnd : isDefer op = false)
    (h : WL ro n P ops Q N ((d, v) :: env) rest w') : WL ro n P ops Q N env (⟨some d, op, ty, pos, aft, none⟩ :: rest) w := fun a ha => by
  have hN : d < N := Nat.le_of_ble_eq_true hd
  refine wpListIn_plain rfl fun K hK => ?_
  refine ⟨fun _ _ => trivial, ?_⟩
  rw [Oper.semAt_eq _ _ _ (by intro c hc; simp only at hc; rw [hc] at hnd; simp [isDefer] at hnd), hr a _ _ _ _ ha]
  exact hK _ _ (h _ (ha.put hN v))
theorem WL.unit {op : Op} {ty : TypeId} {pos : String} {aft : Array Edge} {rest : List Oper} (hr : RunsU P N env op ty w w') (hnd : isDefer op = false)
    (h : WL ro n P ops Q N env rest w') : WL ro n P ops Q N env (⟨none, op, ty, pos, aft, none⟩ :: rest) w := fun a ha => by
  refine wpListIn_plain rfl fun K hK => ?_
  refine ⟨fun _ _ => trivial, ?_⟩
  rw [Oper.semAt_eq _ _ _ (by intro c hc; simp only at hc; rw [hc] at hnd; simp [isDefer] at hnd), hr a _ _ _ _ ha]
  exact hK _ _ (h _ ha)

/-- a guard that holds -/
theorem yielded_of {ops : Array Oper} {j : Nat} {oj : Oper} {dj : Nat} {b : Bool} (hj : ops[j]? = some oj) (hd : oj.dst = some dj) {a : Act} (ha : Ag N env a) (hl : lk env dj = some (.bool b)) :
    yielded ops a.tmps j = some b := by
  unfold yielded
  rw [hj]
  simp only [Option.bind_some, hd, ha.at_ dj _ hl]
theorem yielded_undef {ops : Array Oper} {j : Nat} {oj : Oper} {dj : Nat} (hj : ops[j]? = some oj) (hd : oj.dst = some dj) {a : Act} (ha : Ag N env a) (hl : lk env dj = some undef) :
    yielded ops a.tmps j = none := by
  unfold yielded
  rw [hj]
  simp only [Option.bind_some, hd, ha.at_ dj _ hl, undef]
theorem WL.gval {j dj : Nat} {oj : Oper} {b : Bool} {d : Nat} {op : Op} {ty : TypeId} {pos : String} {aft : Array Edge} {rest : List Oper} {v : Value}
    (hj : ops[j]? = some oj) (hdj : oj.dst = some dj) (hl : lk env dj = some (.bool b)) (hr : Runs P N env op ty w v w')
    (hd : Nat.ble (d + 1) N = true) (hnd : isDefer op = false)
    (h : WL ro n P ops Q N ((d, v) :: env) rest w') : WL ro n P ops Q N env (⟨some d, op, ty, pos, aft, some (j, b)⟩ :: rest) w := fun a ha => by
  have hN : d < N := Nat.le_of_ble_eq_true hd
  refine wpListIn_step fun K hK => ?_
  rw [if_pos (by simp [Region.wanted, yielded_of hj hdj ha hl])]
  refine ⟨fun _ _ => trivial, ?_⟩
  rw [Oper.semAt_eq _ _ _ (by intro c hc; simp only at hc; rw [hc] at hnd; simp [isDefer] at hnd), hr a _ _ _ _ ha]
  exact hK _ _ (h _ (ha.put hN v))
theorem WL.gskip {j dj : Nat} {oj : Oper} {b c : Bool} {d : Nat} {op : Op} {ty : TypeId} {pos : String} {aft : Array Edge} {rest : List Oper}
    (hj : ops[j]? = some oj) (hdj : oj.dst = some dj) (hl : lk env dj = some (.bool b)) (hbc : b = !c)
    (hd : Nat.ble (d + 1) N = true)
    (h : WL ro n P ops Q N ((d, undef) :: env) rest w) : WL ro n P ops Q N env (⟨some d, op, ty, pos, aft, some (j, c)⟩ :: rest) w := fun a ha => by
  have hN : d < N := Nat.le_of_ble_eq_true hd
  refine wpListIn_step fun K hK => ?_
  rw [if_neg (by simp [Region.wanted, yielded_of hj hdj ha hl, hbc])]
  exact ⟨fun _ _ => trivial, hK _ _ (h _ (ha.put hN undef))⟩
theorem WL.gskipU {j dj : Nat} {oj : Oper} {c : Bool} {d : Nat} {op : Op} {ty : TypeId} {pos : String} {aft : Array Edge} {rest : List Oper}
    (hj : ops[j]? = some oj) (hdj : oj.dst = some dj) (hl : lk env dj = some undef)
    (hd : Nat.ble (d + 1) N = true)
    (h : WL ro n P ops Q N ((d, undef) :: env) rest w) : WL ro n P ops Q N env (⟨some d, op, ty, pos, aft, some (j, c)⟩ :: rest) w := fun a ha => by
  have hN : d < N := Nat.le_of_ble_eq_true hd
  refine wpListIn_step fun K hK => ?_
  rw [if_neg (by simp [Region.wanted, yielded_undef hj hdj ha hl])]
  exact ⟨fun _ _ => trivial, hK _ _ (h _ (ha.put hN undef))⟩

/-! ends -/
theorem WQ.thenN {K : Act → World → Prop} (h : ∀ a, Ag N env a → K a w) : WQ (Exit.then K Q) .normal N env w := h
theorem WQ.thenC {y : Code} (h : WC ro n P Q N env y w) : WQ (Exit.then (fun a w => y.wpIn (fr ro) n P Q a w) Q) .normal N env w := h
theorem WQ.thenR {K : Act → World → Prop} (h : WQ Q .ret N env w) : WQ (Exit.then K Q) .ret N env w := h
theorem WQ.thenE {K : Act → World → Prop} {i : Nat} (h : WQ Q (.exit i) N env w) : WQ (Exit.then K Q) (.exit i) N env w := h
theorem WQ.blockN {i : Nat} (h : WQ Q .normal N env w) : WQ (Exit.inBlock i Q) .normal N env w := h
theorem WQ.blockR {i : Nat} (h : WQ Q .ret N env w) : WQ (Exit.inBlock i Q) .ret N env w := h
theorem WQ.blockE {i : Nat} (h : WQ Q .normal N env w) : WQ (Exit.inBlock i Q) (.exit i) N env w := fun a ha => by
  show (if i = i then Q .normal a w else Q (.exit i) a w)
  rw [if_pos rfl]; exact h a ha
theorem WQ.blockX {i j : Nat} (hij : Nat.beq j i = false) (h : WQ Q (.exit j) N env w) : WQ (Exit.inBlock i Q) (.exit j) N env w := fun a ha => by
  show (if j = i then Q .normal a w else Q (.exit j) a w)
  rw [if_neg (by intro e; subst e; simp at hij)]; exact h a ha

/-- what a call gives: a value; what lay before lies as it lay -/
def Gives (w : World) (Φ : Value → World → Prop) (e : Ending) (w' : World) : Prop := ∃ v, e = .returned v ∧ Below w.heap.size w w' ∧ Φ v w'

theorem ret_one {fn : Func} {t : Nat} {R : Ending → World → Prop} {v : Value} (hf : fn.results = #[.tmp t]) (hv : lk env t = some v) (hR : R (.returned v) w) :
    WQ (bodyPost P fn R) .ret N env w := fun a ha =>
  ⟨ha.dfr, v, by rw [results_tmp hf, ← ha.ev (x := .tmp t) hv]; rfl, hR⟩
theorem ret_two {fn : Func} {t u : Nat} {R : Ending → World → Prop} {v v' : Value} (hf : fn.results = #[.tmp t, .tmp u]) (hv : lk env t = some v) (hv' : lk env u = some v') (hR : R (.returned (.tuple #[v, v'])) w) :
    WQ (bodyPost P fn R) .ret N env w := fun a ha =>
  ⟨ha.dfr, _, by rw [results_tmp2 hf, ← ha.ev (x := .tmp t) hv, ← ha.ev (x := .tmp u) hv']; rfl, hR⟩
theorem ret_none {fn : Func} {R : Ending → World → Prop} (hf : fn.results = #[]) (hR : R (.returned (.tuple #[])) w) (e : Exit) (he : e = .ret ∨ e = .normal) :
    WQ (bodyPost P fn R) e N env w := fun a ha => by
  rcases he with rfl | rfl <;> exact ⟨ha.dfr, _, results_none hf _ _ _, hR⟩

/-- into a function -/
theorem calls_enter {f : FuncId} {fn : Func} {c : Code} {args : Array Value} {R : Ending → World → Prop}
    (hf : P.funcs[f]? = some fn) (hb : fn.body = some c) (env : Env) (hn : fn.ntmps = N) (hsz : Nat.ble args.size N = true)
    (hs : Sub (args.toList.zipIdx.map fun p => (p.2, p.1)) env)
    (h : WC none n P (bodyPost P fn R) N env c w) : Calls P f args w R := by
  refine calls_of_wp hf hb ?_
  refine (wpIn_wide (n := n)).1 (h _ ?_)
  have hN : args.size ≤ N := Nat.le_of_ble_eq_true hsz
  refine ⟨by simp [hn]; omega, rfl, fun t v ht => ?_⟩
  have h1 := Sub.lk hs t v ht
  have key : ∀ (l : List Value) (k : Nat), lk ((l.zipIdx k).map fun p => (p.2, p.1)) t = some v → k ≤ t ∧ l[t - k]? = some v := by
    intro l
    induction l with
    | nil => intro k h; simp [lk] at h
    | cons x r ih =>
      intro k h
      simp only [List.zipIdx_cons, List.map_cons, lk] at h
      by_cases e : k = t
      · subst e; simp only [Nat.beq_refl, cond_true, Option.some.injEq] at h; subst h; simp
      · have e' : Nat.beq k t = false := by
          cases hb : Nat.beq k t
          · rfl
          · exact absurd (Nat.eq_of_beq_eq_true hb) e
        rw [e'] at h
        obtain ⟨h2, h3⟩ := ih (k + 1) (by simpa using h)
        refine ⟨by omega, ?_⟩
        rw [show t - k = (t - (k + 1)) + 1 by omega, List.getElem?_cons_succ]
        exact h3
  have h2 := (key args.toList 0 h1).2
  simp only [Nat.sub_zero, Array.getElem?_toList] at h2
  have hlt : t < args.size := by
    rcases Nat.lt_or_ge t args.size with h | h
    · exact h
    · rw [Array.getElem?_eq_none h] at h2; cases h2
  rw [Array.getElem?_append_left hlt]
  exact h2
end
end TK
