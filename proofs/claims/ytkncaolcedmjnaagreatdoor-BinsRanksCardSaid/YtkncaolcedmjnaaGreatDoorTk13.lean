/- Words for walks over any program of the model: no statement of a law stands here. -/
import Derived.Test.YtkncaolcedmjnaaGreatDoorTk12
import Derived.Maps.RangeRun
open Go Go.RowKit
open Go.ChangeMaps (setBlock)
namespace TK
section
variable {ro : Option Nat} {n : Nat} {P : Program} {Q : Exit → Act → World → Prop} {N : Nat} {env env' : Env} {w0 w w' : World} {ops : Array Oper} {ty : TypeId} {pos : String} {aft : Array Edge} {rest : List Oper}
variable {M : MSet} {L : List Res} {Fs : List Fact} {α : Type} {R : Rep α} {e : TypeId} {κ ε : Type}
/-! a map that is ranged over: as it lies -/
def ObjR (b : Nat) (o : Obj) : Res where
  id := some b
  ok B _ w := B ≤ b ∧ w.heap[b]? = some o
  lt h k hk := by cases hk; exact ⟨h.1, (Array.getElem?_eq_some_iff.1 h.2).1⟩
  step hs hk h := ⟨h.1, (hk b rfl).trans h.2⟩
theorem Sta.open0 (hS : Sta w0 M L Fs w) (i : Nat) {b : Nat} {kv : κ → Value} {ev' : ε → Value} (hi : L[i]? = some (MapR b kv ev' [])) : ∃ clock, Sta w0 M (L.set i (ObjR b (.map #[] clock))) Fs w := by
  obtain ⟨hB, es, clock, hb, hm, _⟩ := hS.res i hi
  have : es = #[] := by
    have h : es.toList = [] := by simpa using hm
    exact Array.toList_eq_nil_iff.1 h
  subst this
  refine ⟨clock, hS.put i hi _ ⟨Nat.le_refl _, fun _ _ _ => rfl, fun k hk => .inl hk⟩ rfl rfl rfl (fun k hk => .inl hk) fun M' _ => ⟨hB, hb⟩⟩
theorem Sta.open1 (hS : Sta w0 M L Fs w) (i : Nat) {b : Nat} {kv : κ → Value} {ev' : ε → Value} {q : κ × ε} (hi : L[i]? = some (MapR b kv ev' [q])) :
    ∃ clock born, born < clock ∧ Sta w0 M (L.set i (ObjR b (.map #[⟨kv q.1, ev' q.2, born⟩] clock))) Fs w := by
  obtain ⟨hB, es, clock, hb, hm, hborn⟩ := hS.res i hi
  obtain ⟨e, he⟩ : ∃ e, es.toList = [e] := by
    have hl : es.toList.length = 1 := by have := congrArg List.length hm; simpa using this
    exact List.length_eq_one_iff.1 hl
  rw [he] at hm hborn
  simp only [List.map_cons, List.map_nil, List.cons.injEq, Prod.mk.injEq, and_true] at hm
  have h1 := hborn e (by simp)
  have h2 : es = #[⟨kv q.1, ev' q.2, e.born⟩] := by
    rw [← Array.toList_inj, he, ← hm.1, ← hm.2]
  subst h2
  exact ⟨clock, e.born, h1, hS.put i hi _ ⟨Nat.le_refl _, fun _ _ _ => rfl, fun k hk => .inl hk⟩ rfl rfl rfl (fun k hk => .inl hk) fun M' _ => ⟨hB, hb⟩⟩
theorem Sta.setObj (hS : Sta w0 M L Fs w) (i : Nat) {b : Nat} {o : Obj} (hi : L[i]? = some (ObjR b o)) (o' : Obj) {w1 : World} (h1 : w1 = w ∨ w1 = w.drew) : Sta w0 M (L.set i (ObjR b o')) Fs (setBlock w1 b o') := by
  obtain ⟨hB, hb⟩ := hS.res i hi
  have hlt : b < w.heap.size := (Array.getElem?_eq_some_iff.1 hb).1
  have hh : w1.heap = w.heap := by rcases h1 with rfl | rfl <;> rfl
  refine hS.put i hi _ ⟨by simp [setBlock, hh], fun q hq hne => ?_, fun q hq => .inl hq⟩ ?_ ?_ ?_ (fun q hq => .inl hq) fun M' hM => ⟨hB, by simp [setBlock, hh, hlt]⟩
  · have : b ≠ q := fun e => hne (by rw [← e]; rfl)
    simp [setBlock, hh, Array.getElem?_setIfInBounds, this]
  · rcases h1 with rfl | rfl <;> rfl
  · rcases h1 with rfl | rfl <;> rfl
  · rcases h1 with rfl | rfl <;> rfl
theorem WL.range (i : Nat) {d : Nat} {t kt et : TypeId} {x : Operand} {b clock : Nat} {es : Array MapEntry} (ht : P.underlying t = some (.map kt et)) (hS : Sta w0 M L Fs w) (hi : L[i]? = some (ObjR b (.map es clock))) (hx : ev env x = some (.map (some b))) (hd : Nat.ble (d + 1) N = true)
    (h : ∀ r w', Sta w0 M (ObjR r (.mapIter (some b) clock #[] clock) :: L) Fs w' → WL ro n P ops Q N ((d, .pointer (some ⟨r, 0, none⟩)) :: env) rest w') :
    WL ro n P ops Q N env (⟨some d, .range t x, ty, pos, aft, none⟩ :: rest) w := by
  obtain ⟨_, hb⟩ := hS.res i hi
  refine WL.val (fun a d pos aft g ha => ?_) hd rfl (h w.heap.size (w.alloc (.mapIter (some b) clock #[] clock)) ?_)
  · simp [execOp, ha.ev hx, Instr.range, run_underlying ht, getMap hb, newObj, Sem.run]
  · refine hS.more ((Below.refl _ w).alloc (Nat.le_refl _) _) _ (fun k hk => ?_) ⟨hS.bel.size, heap_alloc_new w _⟩
    cases hk; exact ⟨Nat.le_refl _, by simp⟩
theorem WL.next0 (i j : Nat) {d : Nat} {x : Operand} {b r clock : Nat} (hS : Sta w0 M L Fs w) (hi : L[i]? = some (ObjR b (.map #[] clock))) (hj : L[j]? = some (ObjR r (.mapIter (some b) clock #[] clock))) (hx : ev env x = some (.pointer (some ⟨r, 0, none⟩))) (hd : Nat.ble (d + 1) N = true)
    (h : WL ro n P ops Q N ((d, .tuple #[.bool false]) :: env) rest w) :
    WL ro n P ops Q N env (⟨some d, .next x false, ty, pos, aft, none⟩ :: rest) w := by
  obtain ⟨_, hb⟩ := hS.res i hi
  obtain ⟨_, hr⟩ := hS.res j hj
  refine WL.val (fun a d pos aft g ha => ?_) hd rfl h
  rcases run_next_at (P := P) w ty r b clock clock #[] #[] clock hr hb (by simp) (Nat.le_refl _) with ⟨_, h1⟩ | ⟨e, he, _⟩
  · simp [execOp, ha.ev hx, h1]
  · simp [leftOf] at he
theorem WL.next1 (i j : Nat) {d : Nat} {x : Operand} {b r clock : Nat} {e : MapEntry} (hS : Sta w0 M L Fs w) (hi : L[i]? = some (ObjR b (.map #[e] clock))) (hj : L[j]? = some (ObjR r (.mapIter (some b) clock #[] clock))) (hx : ev env x = some (.pointer (some ⟨r, 0, none⟩))) (hborn : e.born < clock) (hd : Nat.ble (d + 1) N = true)
    (h : ∀ w', Sta w0 M (L.set j (ObjR r (.mapIter (some b) clock #[e.born] clock))) Fs w' → WL ro n P ops Q N ((d, .tuple #[.bool true, e.key, e.val]) :: env) rest w') :
    WL ro n P ops Q N env (⟨some d, .next x false, ty, pos, aft, none⟩ :: rest) w := by
  obtain ⟨_, hb⟩ := hS.res i hi
  obtain ⟨_, hr⟩ := hS.res j hj
  rcases run_next_at (P := P) w ty r b clock clock #[] #[e] clock hr hb (by simpa using hborn) (Nat.le_refl _) with ⟨h0, _⟩ | ⟨e', he, w1, hw1, h1⟩
  · simp [leftOf] at h0
  · obtain rfl : e' = e := by simpa [leftOf] using he
    refine WL.val (fun a d pos aft g ha => ?_) hd rfl (h _ (hS.setObj j hj _ hw1))
    have h1' : ∀ ty', (Instr.next (.pointer (some ⟨r, 0, none⟩)) false ty').run P w = (Instr.next (.pointer (some ⟨r, 0, none⟩)) false ty).run P w := fun _ => rfl
    simp [execOp, ha.ev hx, h1', h1]
theorem WL.next2 (i j : Nat) {d : Nat} {x : Operand} {b r clock : Nat} {e : MapEntry} (hS : Sta w0 M L Fs w) (hi : L[i]? = some (ObjR b (.map #[e] clock))) (hj : L[j]? = some (ObjR r (.mapIter (some b) clock #[e.born] clock))) (hx : ev env x = some (.pointer (some ⟨r, 0, none⟩))) (hborn : e.born < clock) (hd : Nat.ble (d + 1) N = true)
    (h : WL ro n P ops Q N ((d, .tuple #[.bool false]) :: env) rest w) :
    WL ro n P ops Q N env (⟨some d, .next x false, ty, pos, aft, none⟩ :: rest) w := by
  obtain ⟨_, hb⟩ := hS.res i hi
  obtain ⟨_, hr⟩ := hS.res j hj
  refine WL.val (fun a d pos aft g ha => ?_) hd rfl h
  rcases run_next_at (P := P) w ty r b clock clock #[e.born] #[e] clock hr hb (by simpa using hborn) (Nat.le_refl _) with ⟨_, h1⟩ | ⟨e', he, _⟩
  · simp [execOp, ha.ev hx, h1]
  · simp [leftOf] at he
theorem R_entry1 (i j : Nat) {x : Operand} {b r clock s : Nat} {e : MapEntry} (hS : Sta w0 M L Fs w) (hi : L[i]? = some (ObjR b (.map #[e] clock))) (hj : L[j]? = some (ObjR r (.mapIter (some b) s #[e.born] clock))) (hx : ev env x = some (.pointer (some ⟨r, 0, none⟩))) :
    Runs P N env (.entry x) ty w (.tuple #[e.key, e.val]) w := fun a d pos aft g ha => by
  obtain ⟨_, hb⟩ := hS.res i hi
  obtain ⟨_, hr⟩ := hS.res j hj
  have hg : (getObj r).run P w = .ok (.mapIter (some b) s #[e.born] clock) w := by simp [getObj, Sem.run, hr]
  simp [execOp, ha.ev hx, Instr.entry, hg, getMap hb]
end
end TK
namespace TK
open Go
def m3 {α β : Type} (l : List α) (a : Option β) (b : α → Option β) : Option β :=
  match l with
  | [] => a
  | [q] => b q
  | _ => none
theorem m3S {α β : Type} {l : List α} {a : Option β} {b : α → Option β} {r : β} (h : m3 l a b = some r) : (l = [] ∧ a = some r) ∨ ∃ q, l = [q] ∧ b q = some r := by
  unfold m3 at h
  split at h
  · exact .inl ⟨rfl, h⟩
  · exact .inr ⟨_, rfl, h⟩
  · cases h
theorem R_cat {P : Program} {N : Nat} {env : Env} {w : World} {ty : TypeId} {x y : Operand} {t u : TypeId} {a b : ByteArray} (hx : ev env x = some (.string a)) (hy : ev env y = some (.string b)) (hs : a.size + b.size ≤ 9223372036854775807) :
    Runs P N env (.binOp .add t x y u) ty w (.string (a ++ b)) w := fun ac d pos aft g ha => by
  have e1 := ha.ev hx; have e2 := ha.ev hy
  generalize ac.eval = ρ at e1 e2 ⊢
  simp [execOp, e1, e2, eqGuard, binOp, Op.stringOp]
  omega
end TK
