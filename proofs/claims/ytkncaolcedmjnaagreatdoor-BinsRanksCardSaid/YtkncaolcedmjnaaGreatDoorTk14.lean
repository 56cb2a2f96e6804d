/- Words for walks over any program of the model: no statement of a law stands here. -/
import Derived.Test.YtkncaolcedmjnaaGreatDoorTk13
import Derived.ChangeKeysEq
open Go Go.RowKit
namespace TK
variable {P : Program} {N : Nat} {env : Env} {w : World} {ty : TypeId}
/-! structs of whole numbers and truth values, alike or not -/
def AggEq (P : Program) (t : TypeId) (xs ys : Array Value) (b : Bool) : Prop := P.eqGuardType P.depth t = false ∧ ∀ w, (Op.equal t (.agg xs) (.agg ys)).run P w = .ok b w
def flatFields (P : Program) : Nat → List Field → Option (List (Option IntKind))
  | _, [] => some []
  | o, f :: r => if f.name = "_" ∨ f.offset ≠ o then none else
    match P.underlying f.type with
    | some (.int k) => (flatFields P (o + 1) r).map (some k :: ·)
    | some .bool => (flatFields P (o + 1) r).map (none :: ·)
    | _ => none
def flatShape (P : Program) (t : TypeId) : Option (List (Option IntKind)) :=
  if P.eqGuardType P.depth t || P.stoodInHeld t then none else
  match P.underlying t with
  | some (.struct fs) => flatFields P 0 fs.toList
  | _ => none
def shapeEq : List (Option IntKind) → List Value → List Value → Option Bool
  | [], [], [] => some true
  | some k :: r, .int j a :: xs, .int j' b :: ys => if j = k ∧ j' = k then (shapeEq r xs ys).map (decide (a = b) && ·) else none
  | none :: r, .bool a :: xs, .bool b :: ys => (shapeEq r xs ys).map (decide (a = b) && ·)
  | _, _, _ => none
theorem run_flatFields (d : Nat) (w : World) : ∀ (fs : List Field) (o : Nat) (ks : List (Option IntKind)) (xs ys : Array Value) (b : Bool), flatFields P o fs = some ks → shapeEq ks (xs.toList.drop o) (ys.toList.drop o) = some b →
    (Op.eqFields (d + 1) xs ys fs).run P w = .ok b w
  | [], o, ks, xs, ys, b, h, hb => by
    simp only [flatFields, Option.some.injEq] at h
    subst h
    cases hx : xs.toList.drop o <;> cases hy : ys.toList.drop o <;> simp [hx, hy, shapeEq] at hb
    subst hb
    simp [Op.eqFields]
  | f :: r, o, ks, xs, ys, b, h, hb => by
    unfold flatFields at h
    split at h
    · cases h
    · rename_i hn
      simp only [not_or, Decidable.not_not] at hn
      obtain ⟨hn, ho⟩ := hn
      split at h
      · rename_i k hu
        obtain ⟨ks', h1, rfl⟩ := Option.map_eq_some_iff.1 h
        cases hx : xs.toList.drop o with
        | nil => simp [hx, shapeEq] at hb
        | cons x xr =>
          cases hy : ys.toList.drop o with
          | nil => rw [hx, hy] at hb; cases x <;> simp [shapeEq] at hb
          | cons y yr =>
            rw [hx, hy] at hb
            cases x <;> cases y <;> simp only [shapeEq] at hb <;> try (cases hb; done)
            split at hb
            · rename_i hk
              obtain ⟨rfl, rfl⟩ := hk
              obtain ⟨b', hb', rfl⟩ := Option.map_eq_some_iff.1 hb
              have dx : xs.toList.drop (o + 1) = xr := by rw [← List.drop_drop, hx]; rfl
              have dy : ys.toList.drop (o + 1) = yr := by rw [← List.drop_drop, hy]; rfl
              have ih := run_flatFields d w r (o + 1) ks' xs ys b' h1 (by rw [dx, dy]; exact hb')
              have px := List.getElem?_drop (xs := xs.toList) (i := o) (j := 0)
              rw [hx] at px
              have py := List.getElem?_drop (xs := ys.toList) (i := o) (j := 0)
              rw [hy] at py
              simp only [List.getElem?_cons_zero, Nat.add_zero, Array.getElem?_toList] at px py
              have ia : ∀ w, (isAgg f.type).run P w = .ok false w := fun w => by simp [isAgg, run_underlying hu]
              simp only [Op.eqFields, hn, ne_eq, not_false_eq_true, if_true, part, Sem.run_bind, ia, Result.andThen_ok, Bool.false_eq_true, if_false, ho, ← px, ← py, Sem.run_pure, run_equalIn_int w d f.type _ _ _ _ hu]
              rename_i a q c
              by_cases hab : a = c
              · simp [hab, ih]
              · simp [hab]
            · cases hb
      · rename_i hu
        obtain ⟨ks', h1, rfl⟩ := Option.map_eq_some_iff.1 h
        cases hx : xs.toList.drop o with
        | nil => simp [hx, shapeEq] at hb
        | cons x xr =>
          cases hy : ys.toList.drop o with
          | nil => rw [hx, hy] at hb; cases x <;> simp [shapeEq] at hb
          | cons y yr =>
            rw [hx, hy] at hb
            cases x <;> cases y <;> simp only [shapeEq] at hb <;> try (cases hb; done)
            obtain ⟨b', hb', rfl⟩ := Option.map_eq_some_iff.1 hb
            have dx : xs.toList.drop (o + 1) = xr := by rw [← List.drop_drop, hx]; rfl
            have dy : ys.toList.drop (o + 1) = yr := by rw [← List.drop_drop, hy]; rfl
            have ih := run_flatFields d w r (o + 1) ks' xs ys b' h1 (by rw [dx, dy]; exact hb')
            have px := List.getElem?_drop (xs := xs.toList) (i := o) (j := 0)
            rw [hx] at px
            have py := List.getElem?_drop (xs := ys.toList) (i := o) (j := 0)
            rw [hy] at py
            simp only [List.getElem?_cons_zero, Nat.add_zero, Array.getElem?_toList] at px py
            have ia : ∀ w, (isAgg f.type).run P w = .ok false w := fun w => by simp [isAgg, run_underlying hu]
            simp only [Op.eqFields, hn, ne_eq, not_false_eq_true, if_true, part, Sem.run_bind, ia, Result.andThen_ok, Bool.false_eq_true, if_false, ho, ← px, ← py, Sem.run_pure, run_equalIn_bool' w d f.type _ _ hu]
            rename_i a b
            by_cases hab : a = b
            · simp [hab, ih]
            · simp [hab]
      · cases h
theorem aggEq_of {t : TypeId} {ks : List (Option IntKind)} {xs ys : Array Value} {b : Bool} (h : flatShape P t = some ks) (hb : shapeEq ks xs.toList ys.toList = some b) : AggEq P t xs ys b := by
  unfold flatShape at h
  split at h
  · cases h
  · rename_i hg
    simp only [Bool.or_eq_true, not_or, Bool.not_eq_true] at hg
    refine ⟨hg.1, fun w => ?_⟩
    split at h
    · rename_i fs hu
      have hf : P.fieldsOf t = fs := by simp [Program.fieldsOf, hu]
      have := run_equalIn_struct (P := P) w 9999 t xs ys (by rw [hf]; exact hu) hg.2
      show (Op.equalIn (9999 + 1) t (.agg xs) (.agg ys)).run P w = _
      rw [this, hf]
      exact run_flatFields 9998 w fs.toList 0 ks xs ys b h (by simpa using hb)
    · cases h
theorem R_eqA {x y : Operand} {t u : TypeId} {xs ys : Array Value} {b : Bool} (h : AggEq P t xs ys b) (hx : ev env x = some (.agg xs)) (hy : ev env y = some (.agg ys)) : Runs P N env (.binOp .eql t x y u) ty w (.bool b) w := fun ac d pos aft g ha => by
  have e1 := ha.ev hx; have e2 := ha.ev hy
  generalize ac.eval = ρ at e1 e2 ⊢
  simp [execOp, e1, e2, eqGuard, h.1, binOp, h.2]
theorem R_neA {x y : Operand} {t u : TypeId} {xs ys : Array Value} {b : Bool} (h : AggEq P t xs ys b) (hx : ev env x = some (.agg xs)) (hy : ev env y = some (.agg ys)) : Runs P N env (.binOp .neq t x y u) ty w (.bool (!b)) w := fun ac d pos aft g ha => by
  have e1 := ha.ev hx; have e2 := ha.ev hy
  generalize ac.eval = ρ at e1 e2 ⊢
  simp [execOp, e1, e2, eqGuard, h.1, binOp, h.2]
end TK
namespace TK
open Go
theorem Runs.cast {P : Program} {N : Nat} {env : Env} {w w' : World} {ty : TypeId} {op : Op} {v v' : Value} (h : Runs P N env op ty w v w') (e : v = v') : Runs P N env op ty w v' w' := e ▸ h
end TK
