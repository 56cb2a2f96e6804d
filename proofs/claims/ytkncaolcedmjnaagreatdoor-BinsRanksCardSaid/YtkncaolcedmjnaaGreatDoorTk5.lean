/- Words for walks over any program of the model: no statement of a law stands here. -/
import Derived.Test.YtkncaolcedmjnaaGreatDoorTk4
open Go Go.RowKit
namespace TK

/-! ### closed facts -/
def isAggD : TypeDesc → Bool
  | .struct _ => true
  | .array _ _ => true
  | _ => false
/-- is it of several cells (a struct), and of how many -/
def aggSz (P : Program) (t : TypeId) : Option (Bool × Nat) :=
  match P.underlying t, P.info? t with
  | some d, some i => some (isAggD d, i.size)
  | _, _ => none
def fieldOff (P : Program) (s f : Nat) : Option Nat :=
  match P.underlying s with
  | some (.struct fs) =>
    match fs[f]? with
    | some fl =>
      match P.info? fl.type with
      | some i => if i.size = 0 then none else some fl.offset
      | none => none
    | none => none
  | _ => none
/-- the zero value, its cells, its bytes -/
def zinfo (P : Program) (e : TypeId) : Option (Value × Nat × Nat) :=
  match P.info? e with
  | some i => match i.zero with
    | some z => some (z, i.size, i.bytes)
    | none => none
  | none => none
theorem zinfo_parts {P : Program} {e : TypeId} {z : Value} {s b : Nat} (h : zinfo P e = some (z, s, b)) : ∃ i, P.info? e = some i ∧ i.zero = some z ∧ i.size = s ∧ i.bytes = b := by
  unfold zinfo at h
  cases hi : P.info? e with
  | none => simp [hi] at h
  | some i =>
    cases hz : i.zero with
    | none => simp [hi, hz] at h
    | some z' => simp [hi, hz] at h; exact ⟨i, rfl, by rw [hz, h.1], h.2.1, h.2.2⟩

section
variable {P : Program} {N : Nat} {env : Env} {w : World} {ty : TypeId}

theorem run_isAgg {t : TypeId} {b : Bool} {n : Nat} (h : aggSz P t = some (b, n)) (w : World) : (isAgg t).run P w = .ok b w ∧ (Go.sizeOf t).run P w = .ok n w := by
  unfold aggSz at h
  cases hu : P.underlying t with
  | none => simp [hu] at h
  | some d =>
    cases hi : P.info? t with
    | none => simp [hu, hi] at h
    | some i =>
      simp only [hu, hi, Option.some.injEq, Prod.mk.injEq] at h
      obtain ⟨rfl, rfl⟩ := h
      refine ⟨?_, by simp [Go.sizeOf, typeInfo, hi]⟩
      cases d <;> simp [isAgg, run_underlying hu, isAggD]

theorem R_load1 {x : Operand} {t : TypeId} {n : Nat} {p : Addr} {v : Value} (ht : aggSz P t = some (false, n)) (hx : ev env x = some (.pointer (some p))) (hc : w.cell? p = some v) :
    Runs P N env (.load t x) ty w v w := fun a d pos aft g ha => by
  simp [execOp, ha.ev hx, Instr.loadAt, Instr.sureAddr, loadVar, (run_isAgg ht w).1, Go.load, Sem.run, hc]
theorem R_loadA {x : Operand} {t : TypeId} {n : Nat} {p : Addr} {cs : List Value} (ht : aggSz P t = some (true, n)) (hx : ev env x = some (.pointer (some p)))
    (hn : cs.length = n) (hc : ∀ j u, cs[j]? = some u → w.cell? (p.add j) = some u) :
    Runs P N env (.load t x) ty w (.agg cs.toArray) w := fun a d pos aft g ha => by
  have h := run_loadCells_list (P := P) (w := w) p cs hc
  rw [hn] at h
  simp [execOp, ha.ev hx, Instr.loadAt, Instr.sureAddr, loadVar, (run_isAgg ht w).1, (run_isAgg ht w).2, h]
theorem R_fieldAddr {x : Operand} {s f off : Nat} {p : Addr} (hf : fieldOff P s f = some off) (hx : ev env x = some (.pointer (some p))) :
    Runs P N env (.fieldAddr s x f) ty w (.pointer (some (p.add off))) w := fun a d pos aft g ha => by
  unfold fieldOff at hf
  cases hu : P.underlying s with
  | none => simp [hu] at hf
  | some dsc =>
    cases dsc <;> try (simp [hu] at hf; done)
    rename_i fs
    simp only [hu] at hf
    cases hfl : fs[f]? with
    | none => simp [hfl] at hf
    | some fl =>
      simp only [hfl] at hf
      cases hi : P.info? fl.type with
      | none => simp [hi] at hf
      | some i =>
        simp only [hi] at hf
        by_cases h0 : i.size = 0
        · simp [h0] at hf
        · simp only [h0, if_false, Option.some.injEq] at hf
          subst hf
          simp [execOp, ha.ev hx, Instr.fieldAt, run_underlying hu, hfl, Instr.sureAddr, fieldPlace, Go.sizeOf, typeInfo, hi, h0]
theorem R_indexAddr {x ix : Operand} {t e : TypeId} {sz by_ : Nat} {z : Value} {A : Option Addr} {ad : Addr} {m c : Nat} {k : IntKind} {i : Int}
    (ht : P.underlying t = some (.slice e)) (he : zinfo P e = some (z, sz, by_)) (hx : ev env x = some (.slice A m c)) (hi : ev env ix = some (.int k i)) (hA : A = some ad) (h0 : 0 ≤ i) (h1 : i.toNat < m) :
    Runs P N env (.indexAddr t x ix) ty w (.pointer (some (ad.add (i.toNat * sz)))) w := fun a d pos aft g ha => by
  obtain ⟨inf, hinf, _, hs, _⟩ := zinfo_parts he
  subst hA
  have h2 : i < (m : Int) := by omega
  simp [execOp, ha.ev hx, ha.ev hi, Instr.indexAt, asIntOf, run_underlying ht, Go.sizeOf, typeInfo, hinf, hs, h0, h2]
theorem R_build {t : TypeId} {parts : Array (Nat × Operand)} {vs : List (Nat × Value)} {cells : Array Value}
    (hv : parts.toList.mapM (fun p => (ev env p.2).map fun v => (p.1, v)) = some vs) (hb : P.built t vs = some cells) : Runs P N env (.build t parts) ty w (.agg cells) w := fun a d pos aft g ha => by
  have key : ∀ (l : List (Nat × Operand)) (vs : List (Nat × Value)), l.mapM (fun p => (ev env p.2).map fun v => (p.1, v)) = some vs → l.map (fun p => (p.1, a.eval p.2)) = vs := by
    intro l
    induction l with
    | nil => intro vs h; simpa using h
    | cons x r ih =>
      intro vs h
      simp only [List.mapM_cons, Option.pure_def, Option.bind_eq_bind, Option.bind_eq_some_iff] at h
      obtain ⟨v, hv, vs', h2, h3⟩ := h
      simp only [Option.some.injEq] at h3
      subst h3
      obtain ⟨u, hu, hv⟩ := Option.map_eq_some_iff.1 hv
      subst hv
      simp [ha.ev hu, ih _ h2]
  have e := key _ _ hv
  have hr := run_build (P := P) w t (parts.map fun p => (p.1, a.eval p.2)) cells (by rw [Array.toList_map, e]; exact hb)
  simp only [execOp]
  have e2 : (parts.map fun x => match x with | (i, x) => (i, a.eval x)) = parts.map fun p => (p.1, a.eval p.2) := rfl
  simp [e2, hr]
theorem evs {parts : List Operand} {vs : List Value} {a : Act} (ha : Ag N env a) (hv : parts.mapM (ev env) = some vs) : parts.map a.eval = vs := by
  induction parts generalizing vs with
  | nil => simpa using hv
  | cons x r ih =>
    simp only [List.mapM_cons, Option.pure_def, Option.bind_eq_bind, Option.bind_eq_some_iff] at hv
    obtain ⟨v, hv, vs', h2, h3⟩ := hv
    simp only [Option.some.injEq] at h3
    subst h3
    simp [ha.ev hv, ih h2]
end

/-! ### operations on memory -/
section
variable {ro : Option Nat} {n : Nat} {P : Program} {Q : Exit → Act → World → Prop} {N : Nat} {env : Env} {w0 w w' : World} {ops : Array Oper} {ty : TypeId} {pos : String} {aft : Array Edge} {rest : List Oper}
variable {M : MSet} {L : List Res} {Fs : List Fact}

theorem Sta.alloc (hS : Sta w0 M L Fs w) (cs : List Value) (T : TypeId) : Sta w0 M (Blk w.heap.size cs T :: L) Fs (w.alloc (.cells cs.toArray T)) := by
  refine hS.more ((Below.refl _ w).alloc (Nat.le_refl _) _) _ (fun k hk => ?_) ⟨hS.bel.size, heap_alloc_new w _⟩
  cases hk; exact ⟨Nat.le_refl _, by simp⟩

theorem WL.alloc {d : Nat} {T : TypeId} {z : Value} {sz by_ : Nat} (cs : List Value) (hz : zinfo P T = some (z, sz, by_)) (hcs : z.cells = cs.toArray) (hS : Sta w0 M L Fs w)
    (hd : Nat.ble (d + 1) N = true)
    (h : ∀ b w', Sta w0 M (Blk b cs T :: L) Fs w' → WL ro n P ops Q N ((d, .pointer (some ⟨b, 0, none⟩)) :: env) rest w') :
    WL ro n P ops Q N env (⟨some d, .alloc T, ty, pos, aft, none⟩ :: rest) w := by
  obtain ⟨i, hi, hz', _, _⟩ := zinfo_parts hz
  refine WL.val (fun a d pos aft g ha => ?_) hd rfl (h w.heap.size _ (hS.alloc cs T))
  simp [execOp, Instr.alloc, zeroValue, typeInfo, hi, hz', newVar, newRow, hcs]
theorem WL.box {d : Nat} {T : TypeId} {x : Operand} {v : Value} (cs : List Value) (hx : ev env x = some v) (hcs : v.cells = cs.toArray) (hS : Sta w0 M L Fs w)
    (hd : Nat.ble (d + 1) N = true)
    (h : ∀ b w', Sta w0 M (Blk b cs T :: L) Fs w' → WL ro n P ops Q N ((d, .pointer (some ⟨b, 0, none⟩)) :: env) rest w') :
    WL ro n P ops Q N env (⟨some d, .box T x, ty, pos, aft, none⟩ :: rest) w := by
  refine WL.val (fun a d pos aft g ha => ?_) hd rfl (h w.heap.size _ (hS.alloc cs T))
  simp [execOp, ha.ev hx, Instr.box, newVar, newRow, hcs]
/-- a literal of a slice -/
def litCells (P : Program) (t : TypeId) (e len : Nat) (vs : List (Nat × Value)) : Option (Array Value) :=
  match P.info? e with
  | some ie => match ie.zero with
    | some z => if len * ie.size > 2 ^ 24 then none else if len * ie.size = 0 then none else
      Instr.fill (fun i => some (i * ie.size, ie.size)) ((Array.range (len * ie.size)).map (z.cells[· % z.cells.size]!)) vs
    | none => none
  | none => none
theorem WL.lit {d : Nat} {t e : TypeId} {len : Nat} {parts : Array (Nat × Operand)} {vs : List (Nat × Value)} (cs : List Value)
    (ht : P.underlying t = some (.slice e)) (hv : parts.toList.mapM (fun p => (ev env p.2).map fun v => (p.1, v)) = some vs) (hl : litCells P t e len vs = some cs.toArray) (hS : Sta w0 M L Fs w)
    (hd : Nat.ble (d + 1) N = true)
    (h : ∀ b w', Sta w0 M (Blk b cs e :: L) Fs w' → WL ro n P ops Q N ((d, .slice (some ⟨b, 0, none⟩) len len) :: env) rest w') :
    WL ro n P ops Q N env (⟨some d, .buildSlice t len parts, ty, pos, aft, none⟩ :: rest) w := by
  refine WL.val (fun a d pos aft g ha => ?_) hd rfl (h w.heap.size _ (hS.alloc cs e))
  have key : ∀ (l : List (Nat × Operand)) (vs : List (Nat × Value)), l.mapM (fun p => (ev env p.2).map fun v => (p.1, v)) = some vs → l.map (fun p => (p.1, a.eval p.2)) = vs := by
    intro l
    induction l with
    | nil => intro vs h; simpa using h
    | cons x r ih =>
      intro vs h
      simp only [List.mapM_cons, Option.pure_def, Option.bind_eq_bind, Option.bind_eq_some_iff] at h
      obtain ⟨v, hv, vs', h2, h3⟩ := h
      simp only [Option.some.injEq] at h3
      subst h3
      obtain ⟨u, hu, hv⟩ := Option.map_eq_some_iff.1 hv
      subst hv
      simp [ha.ev hu, ih _ h2]
  have e1 := key _ _ hv
  unfold litCells at hl
  cases hi : P.info? e with
  | none => simp [hi] at hl
  | some ie =>
    cases hz : ie.zero with
    | none => simp [hi, hz] at hl
    | some z =>
      simp only [hi, hz] at hl
      by_cases h1 : len * ie.size > 2 ^ 24
      · rw [if_pos h1] at hl; cases hl
      · rw [if_neg h1] at hl
        by_cases h2 : len * ie.size = 0
        · rw [if_pos h2] at hl; cases hl
        · rw [if_neg h2] at hl
          have hr := run_buildSlice (P := P) w t e len (parts.map fun p => (p.1, a.eval p.2)) cs.toArray ie z ht hi hz h1 h2 (by rw [Array.toList_map, e1]; exact hl)
          simp only [execOp]
          have e2 : (parts.map fun x => match x with | (i, x) => (i, a.eval x)) = parts.map fun p => (p.1, a.eval p.2) := rfl
          simp [e2, hr]

/-! own blocks -/
theorem Blk.cell {B : Nat} {w : World} {M : MSet} {b : Nat} {cs : List Value} {T : TypeId} (h : (Blk b cs T).ok B M w) {j : Nat} {v : Value} (hj : cs[j]? = some v) : w.cell? ⟨b, j, none⟩ = some v := by
  simp [World.cell?, h.2, hj]
theorem add_plain (b j k : Nat) : (⟨b, j, none⟩ : Addr).add k = ⟨b, j + k, none⟩ := by unfold Addr.add; split <;> simp_all
theorem WL.loadB (i : Nat) {d : Nat} {t : TypeId} {m : Nat} {x : Operand} {b j : Nat} {cs : List Value} {T : TypeId} {v : Value} (ht : aggSz P t = some (false, m)) (hS : Sta w0 M L Fs w)
    (hi : L[i]? = some (Blk b cs T)) (hx : ev env x = some (.pointer (some ⟨b, j, none⟩))) (hj : cs[j]? = some v) (hd : Nat.ble (d + 1) N = true)
    (h : WL ro n P ops Q N ((d, v) :: env) rest w) : WL ro n P ops Q N env (⟨some d, .load t x, ty, pos, aft, none⟩ :: rest) w :=
  WL.val (R_load1 ht hx (Blk.cell (hS.res i hi) hj)) hd rfl h
/-- a struct, or a part of one -/
theorem WL.loadBA (i : Nat) {d : Nat} {t : TypeId} {m : Nat} {x : Operand} {b j : Nat} {cs : List Value} (ds : List Value) {T : TypeId} (ht : aggSz P t = some (true, m)) (hS : Sta w0 M L Fs w)
    (hi : L[i]? = some (Blk b cs T)) (hx : ev env x = some (.pointer (some ⟨b, j, none⟩))) (hds : (cs.drop j).take m = ds) (hm : ds.length = m) (hd : Nat.ble (d + 1) N = true)
    (h : WL ro n P ops Q N ((d, .agg ds.toArray) :: env) rest w) : WL ro n P ops Q N env (⟨some d, .load t x, ty, pos, aft, none⟩ :: rest) w := by
  refine WL.val (R_loadA ht hx hm fun k u hk => ?_) hd rfl h
  rw [add_plain]
  refine Blk.cell (hS.res i hi) ?_
  subst hds
  rw [List.getElem?_take] at hk
  split at hk
  · rw [List.getElem?_drop] at hk; exact hk
  · cases hk
theorem setCells_heap (b : Nat) (T : TypeId) : ∀ (vs : List Value) (j : Nat) (cs : List Value) (w : World), w.heap[b]? = some (.cells cs.toArray T (0, 0)) → j + vs.length ≤ cs.length → (∀ v ∈ vs, v.oneCell' = true) →
    ∃ w', (∀ P : Program, ∀ k0 o, o + k0 = j → (storeCells ⟨b, o, none⟩ vs k0).run P w = .ok () w') ∧ w'.heap[b]? = some (.cells (cs.take j ++ vs ++ cs.drop (j + vs.length)).toArray T (0, 0)) ∧
      w'.heap.size = w.heap.size ∧ (∀ k, k ≠ b → w'.heap[k]? = w.heap[k]?) ∧ w'.os = w.os ∧ w'.tape = w.tape ∧ w'.output = w.output
  | [], j, cs, w, hb, hj, _ => ⟨w, fun P k0 o _ => by simp [storeCells], by simpa using hb, rfl, fun _ _ => rfl, rfl, rfl, rfl⟩
  | v :: vs, j, cs, w, hb, hj, h1 => by
    simp only [List.length_cons] at hj
    have hw1 : (w.setCell ⟨b, j, none⟩ v).heap[b]? = some (.cells (cs.set j v).toArray T (0, 0)) := by
      simp [World.setCell, Array.getElem?_modify, hb]
    obtain ⟨w', hr, hh, hsz, hoth, h2, h3, h4⟩ := setCells_heap b T vs (j + 1) (cs.set j v) (w.setCell ⟨b, j, none⟩ v) hw1 (by simp; omega) (fun u hu => h1 u (by simp [hu]))
    refine ⟨w', fun P k0 o ho => ?_, ?_, by rw [hsz]; simp [World.setCell], fun k hk => by rw [hoth k hk]; exact Below.heap_setCell _ _ _ _ (by simpa using hk), h2, h3, h4⟩
    · have hc : w.cell? ⟨b, j, none⟩ = some cs[j] := by simp [World.cell?, hb, show j < cs.length by omega]
      have hf : w.frozen? ⟨b, j, none⟩ = false := by simp [World.frozen?, hb]
      have hv := h1 v (by simp)
      simp only [storeCells, add_plain, ho]
      have hst : ((Go.store ⟨b, j, none⟩ v).run P w) = .ok () (w.setCell ⟨b, j, none⟩ v) := by
        cases v <;> simp [Value.oneCell'] at hv <;> simp [Go.store, Sem.run, hc, hf]
      simp only [Sem.run_bind, hst, Result.andThen_ok]
      exact hr P (k0 + 1) o (by omega)
    · rw [hh]
      congr 3
      apply List.ext_getElem?
      intro m
      simp only [List.getElem?_append, List.getElem?_take, List.getElem?_set, List.getElem?_drop, List.length_take, List.length_append, List.length_set, List.length_cons]
      have hmin1 : min (j + 1) cs.length = j + 1 := by omega
      have hmin2 : min j cs.length = j := by omega
      rw [hmin1, hmin2]
      by_cases hm1 : m < j
      · simp only [show m < j + 1 + vs.length by omega, show m < j + (vs.length + 1) by omega, show m < j + 1 by omega, hm1, if_true, show ¬ (j = m) by omega, if_false]
      · by_cases hm2 : m = j
        · subst hm2
          simp only [show m < m + 1 + vs.length by omega, show m < m + (vs.length + 1) by omega, show m < m + 1 by omega, if_true, Nat.lt_irrefl, if_false, Nat.sub_self, List.getElem?_cons_zero, show m < cs.length by omega]
        · by_cases hm3 : m < j + 1 + vs.length
          · simp only [hm3, show m < j + (vs.length + 1) by omega, show ¬ m < j + 1 by omega, hm1, if_true, if_false]
            rw [show m - j = (m - (j + 1)) + 1 by omega, List.getElem?_cons_succ]
          · simp only [hm3, show ¬ m < j + (vs.length + 1) by omega, if_false, show ¬ (j = j + 1 + vs.length + (m - (j + 1 + vs.length))) by omega]
            congr 1
            omega
theorem WL.storeB (i : Nat) {t : TypeId} {m : Nat} {bb : Bool} {x y : Operand} {b j : Nat} {cs : List Value} (ds : List Value) {T : TypeId} {v : Value} (ht : aggSz P t = some (bb, m)) (hS : Sta w0 M L Fs w)
    (hi : L[i]? = some (Blk b cs T)) (hx : ev env x = some (.pointer (some ⟨b, j, none⟩))) (hy : ev env y = some v) (hv : v.cells = ds.toArray) (hm : ds.length = m) (hj : Nat.ble (j + m) cs.length = true) (h1 : ds.all (·.oneCell') = true)
    (cs' : List Value) (hcs' : cs.take j ++ ds ++ cs.drop (j + m) = cs')
    (h : ∀ w', Sta w0 M (L.set i (Blk b cs' T)) Fs w' → WL ro n P ops Q N env rest w') : WL ro n P ops Q N env (⟨none, .store t x y, ty, pos, aft, none⟩ :: rest) w := by
  have hjm : j + m ≤ cs.length := Nat.le_of_ble_eq_true hj
  have hok := hS.res i hi
  obtain ⟨w', hr, hh, hsz, hoth, h2, h3, h4⟩ := setCells_heap b T ds j cs w hok.2 (by omega) (fun u hu => List.all_eq_true.1 h1 u hu)
  have hS' : Sta w0 M (L.set i (Blk b cs' T)) Fs w' := by
    refine hS.put i hi (Blk b cs' T) ⟨by omega, fun k _ hk => hoth k (fun e => hk (by rw [e]; rfl)), fun k hk => .inl hk⟩ h2 h3 h4 (fun k hk => .inl hk) fun M' _ => ⟨hok.1, ?_⟩
    rw [hh, hm, hcs']
  refine WL.unit (fun a d pos aft g ha => ?_) rfl (h w' hS')
  have e1 := (run_isAgg ht w).2
  have hr2 := hr P 0 j (by omega)
  simp [execOp, ha.ev hx, ha.ev hy, Instr.storeAt, Instr.sureAddr, storeVar, e1, hv, hm, hr2]
end
end TK
