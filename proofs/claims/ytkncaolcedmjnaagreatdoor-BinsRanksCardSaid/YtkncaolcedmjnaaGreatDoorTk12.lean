/- Words for walks over any program of the model: no statement of a law stands here. -/
import Derived.Test.YtkncaolcedmjnaaGreatDoorTk11
open Go Go.RowKit
namespace TK
section
variable {ro : Option Nat} {n : Nat} {P : Program} {Q : Exit → Act → World → Prop} {N : Nat} {env env' : Env} {w0 w w' : World} {ops : Array Oper} {ty : TypeId} {pos : String} {aft : Array Edge} {rest : List Oper}
variable {M : MSet} {L : List Res} {Fs : List Fact} {α : Type} {R : Rep α} {e : TypeId}

/-! slices with three indexes -/
theorem R_slice3 {x o o' : Operand} {t : TypeId} {sz by_ : Nat} {z : Value} (ht : P.underlying t = some (.slice e)) (he : zinfo P e = some (z, sz, by_)) {A : Option Addr} {m c : Nat} {k k' : IntKind} {h : Int} (hx : ev env x = some (.slice A m c))
    (ho : ev env o = some (.int k h)) (ho' : ev env o' = some (.int k' h)) (h0 : 0 ≤ h) (hc : h.toNat ≤ c) : Runs P N env (.slice t x none (some o) (some o')) ty w (.slice A h.toNat h.toNat) w := fun a d pos aft g ha => by
  obtain ⟨inf, hinf, _, hs, _⟩ := zinfo_parts he
  obtain ⟨q, rfl⟩ := Int.eq_ofNat_of_zero_le h0
  simp only [Int.ofNat_toNat, Int.toNat_natCast] at hc
  have h2 : (0 : Int) ≤ (q : Int) ∧ (q : Int) ≤ (c : Int) := by omega
  have e1 := ha.ev hx; have e2 := ha.ev ho; have e3 := ha.ev ho'
  generalize a.eval = ρ at e1 e2 e3 ⊢
  have h3 : ∀ (A : Option Addr), (if q = 0 then A else Option.map (fun x => x.add 0) A) = A := by
    intro A; cases A <;> simp [Addr.add]
  simp [execOp, e1, e2, e3, Instr.sliceAt, run_underlying ht, Instr.slice, Instr.sliceBounds, Instr.sliceBound, asIntOf, h2, Go.sizeOf, typeInfo, hinf, hs, hc, h3]
theorem Sta.subMax (hS : Sta w0 M L Fs w) (i : Nat) {A : Option Addr} {c : Nat} {xs : List α} (hi : Fs[i]? = some (FSl R A c xs)) (h : Nat) (hh : h ≤ xs.length) :
    Sta w0 M L (FSl R A h (xs.take h) :: Fs) w := by
  have hs := hS.sl i hi
  have h1 := Sl.sub hs.2 hs.1 (Nat.zero_le h) hh
  rw [subA_zero, List.drop_zero] at h1
  exact hS.addF _ ⟨by simp; omega, h1⟩

/-! strings -/
theorem R_strIx {x ix : Operand} {t : TypeId} {b : ByteArray} {k : IntKind} {i : Int} {c : UInt8} (ht : P.underlying t = some .string) (hx : ev env x = some (.string b)) (hi : ev env ix = some (.int k i)) (h0 : 0 ≤ i) (hc : b[i.toNat]? = some c) :
    Runs P N env (.index t x ix) ty w (.int .u8 c.toNat) w := fun a d pos aft g ha => by
  have e1 := ha.ev hx; have e2 := ha.ev hi
  generalize a.eval = ρ at e1 e2 ⊢
  simp [execOp, e1, e2, Instr.index, asIntOf, run_underlying ht, h0, hc]
def sIx (b : ByteArray) (i : Int) : Option Int := if 0 ≤ i then (b[i.toNat]?).map fun c => (c.toNat : Int) else none
theorem sIxS {b : ByteArray} {i r : Int} (h : sIx b i = some r) : 0 ≤ i ∧ ∃ c, b[i.toNat]? = some c ∧ r = c.toNat := by
  unfold sIx at h
  split at h
  · obtain ⟨c, h1, h2⟩ := Option.map_eq_some_iff.1 h; exact ⟨by assumption, c, h1, h2.symm⟩
  · cases h
theorem R_strIx' {x ix : Operand} {t : TypeId} {b : ByteArray} {k : IntKind} {i r : Int} (ht : P.underlying t = some .string) (hx : ev env x = some (.string b)) (hi : ev env ix = some (.int k i)) (h : sIx b i = some r) :
    Runs P N env (.index t x ix) ty w (.int .u8 r) w := by
  obtain ⟨h0, c, hc, rfl⟩ := sIxS h; exact R_strIx ht hx hi h0 hc

/-! make with a capacity -/
theorem WL.make2 {d : Nat} {t : TypeId} {x y : Operand} {k kc : IntKind} {m c : Int} {z : Value} {by_ : Nat} (z0 : α) (ht : P.underlying t = some (.slice e)) (he : zinfo P e = some (z, 1, by_)) (hz1 : z.cells = #[z])
    (hsz : R.sz = 1) (hK : ∀ M w, R.K M w z0 [z]) (hS : Sta w0 M L Fs w) (hx : ev env x = some (.int k m)) (hy : ev env y = some (.int kc c)) (h0 : 0 ≤ m) (hmc : m ≤ c) (hb : c.toNat * by_ ≤ 281474976710656) (hby : Nat.blt 0 by_ = true) (hd : Nat.ble (d + 1) N = true)
    (h : ∀ b w', Sta w0 M (Row R e (.slice (some ⟨b, 0, none⟩) m.toNat c.toNat) (List.replicate m.toNat z0) :: L) Fs w' → WL ro n P ops Q N ((d, .slice (some ⟨b, 0, none⟩) m.toNat c.toNat) :: env) rest w') :
    WL ro n P ops Q N env (⟨some d, .makeSlice t x y, ty, pos, aft, none⟩ :: rest) w := by
  obtain ⟨inf, hinf, hz, hs, hbb⟩ := zinfo_parts he
  have hby' : 0 < by_ := by simpa [Nat.blt_eq] using hby
  obtain ⟨q, rfl⟩ := Int.eq_ofNat_of_zero_le h0
  obtain ⟨p, rfl⟩ := Int.eq_ofNat_of_zero_le (show 0 ≤ c by omega)
  simp only [Int.toNat_natCast] at *
  have hp : p ≤ 281474976710656 := Nat.le_trans (Nat.le_mul_of_pos_right _ hby') hb
  have hb' : (inf.bytes : Int) * (p : Int) ≤ 281474976710656 := by
    have h : ((inf.bytes * p : Nat) : Int) ≤ 281474976710656 := by rw [hbb, Nat.mul_comm]; omega
    rwa [Int.natCast_mul] at h
  have hr := run_make (P := P) w t e inf z ht hinf hz k kc q p (by omega) (by omega) hb' (by omega)
  simp only [Int.toNat_natCast, hs, Nat.mul_one, hz1] at hr
  refine WL.val (fun a d pos aft g ha => ?_) hd rfl (h w.heap.size (w.alloc (.cells (madeCells #[z] p) e)) ?_)
  · simp [execOp, ha.ev hx, ha.ev hy, hr]
  · refine hS.more ((Below.refl _ w).alloc (Nat.le_refl _) _) _ (fun k hk => ?_) ?_
    · cases hk; exact ⟨Nat.le_refl _, by simp⟩
    · have hsize : (madeCells #[z] p).size = p := by simp [madeCells]
      have hel : (madeCells #[z] p).toList = List.replicate p z := by
        apply List.ext_getElem?
        intro j
        by_cases hj : j < p
        · simp [madeCells, List.getElem?_replicate, hj, Nat.mod_one]
        · simp [madeCells, List.getElem?_replicate, hj]
      refine ⟨List.replicate q z, ⟨by simp [hsz], .inr ⟨w.heap.size, p, _, by simp, hS.bel.size, heap_alloc_new w _, by simp; omega, by simp only [maxLen]; omega, by rw [hsize, hsz, Nat.mul_one], ?_⟩⟩, ?_⟩
      · rw [hel, hsz]; simp [List.take_replicate]; omega
      · exact Elems.replicate (hK _ _) q

/-! maps of plain keys -/
structure KeyT (P : Program) (kt : TypeId) {κ : Type} [DecidableEq κ] (kv : κ → Value) : Prop where
  same : ∃ d, P.underlying kt = some d ∧ ∀ a b, Instr.sameNow d (kv a) (kv b) = some (decide (a = b))
  chk : ∀ b a (w : World), (Instr.checkKey b 10000 kt (kv a)).run P w = .ok () w
  bits : ∀ a, Instr.sameBits 10000 (kv a) (kv a) = true
theorem getMap {P : Program} {w : World} {r : Nat} {es : Array MapEntry} {c : Nat} (hb : w.heap[r]? = some (.map es c)) : (getObj r).run P w = .ok (.map es c) w := by simp [getObj, Sem.run, hb]
theorem setMap {P : Program} {w : World} {r : Nat} {es : Array MapEntry} {c : Nat} (o' : Obj) (hb : w.heap[r]? = some (.map es c)) : (setObj r o').run P w = .ok () { w with heap := w.heap.setIfInBounds r o' } := by simp [setObj, Sem.run, hb]
theorem beq_ba (a b : ByteArray) : (a == b) = decide (a = b) := by
  cases a with
  | mk x => cases b with
    | mk y =>
      show (x == y) = _
      by_cases h : x = y
      · subst h; simp
      · have : ¬ ByteArray.mk x = ByteArray.mk y := fun e => h (by injection e)
        simp [h, this]
theorem bits_int (n : Nat) (k : IntKind) (a : Int) : Instr.sameBits n (.int k a) (.int k a) = true := by cases n <;> simp [Instr.sameBits]
theorem bits_str (n : Nat) (a : ByteArray) : Instr.sameBits n (.string a) (.string a) = true := by cases n <;> simp [Instr.sameBits, beq_ba]
theorem chk_int {kt : TypeId} {k : IntKind} (h : P.underlying kt = some (.int k)) (n : Nat) (b : Bool) (v : Value) (w : World) : (Instr.checkKey b (n + 1) kt v).run P w = .ok () w := by simp [Instr.checkKey, run_underlying h]
theorem chk_str {kt : TypeId} (h : P.underlying kt = some .string) (n : Nat) (b : Bool) (v : Value) (w : World) : (Instr.checkKey b (n + 1) kt v).run P w = .ok () w := by simp [Instr.checkKey, run_underlying h]
theorem KeyT.int {kt : TypeId} {k : IntKind} (h : P.underlying kt = some (.int k)) : KeyT P kt (fun a : Int => .int k a) where
  same := ⟨_, h, fun a b => by simp [Instr.sameNow, Bool.beq_eq_decide_eq]⟩
  chk b a w := chk_int h 9999 b _ w
  bits a := bits_int _ _ _
theorem KeyT.str {kt : TypeId} (h : P.underlying kt = some .string) : KeyT P kt (fun a : ByteArray => .string a) where
  same := ⟨_, h, fun a b => by
    simp only [Instr.sameNow, Option.some.injEq, beq_ba]⟩
  chk b a w := chk_str h 9999 b _ w
  bits a := bits_str _ _
variable {κ ε : Type} [DecidableEq κ]
def mget (z : ε) : List (κ × ε) → κ → ε
  | [], _ => z
  | p :: r, k => if p.1 = k then p.2 else mget z r k
def mput : List (κ × ε) → κ → ε → List (κ × ε)
  | [], k, v => [(k, v)]
  | p :: r, k, v => if p.1 = k then (k, v) :: r else p :: mput r k v
theorem find_spec {kv : κ → Value} {ev : ε → Value} {d : TypeDesc} (hsame : ∀ a b, Instr.sameNow d (kv a) (kv b) = some (decide (a = b))) (k : κ) (z : ε) :
    ∀ (es : List MapEntry) (m : List (κ × ε)) (i : Nat), es.map (fun e => (e.key, e.val)) = m.map (fun p => (kv p.1, ev p.2)) →
      (∃ j e, es[j]? = some e ∧ Instr.findNow d (kv k) es i = some (some (i + j, e.val)) ∧ e.key = kv k ∧ e.val = ev (mget z m k) ∧
        ∀ v, (mput m k v).map (fun p => (kv p.1, ev p.2)) = (es.set j { e with key := kv k, val := ev v }).map (fun e => (e.key, e.val))) ∨
      (Instr.findNow d (kv k) es i = some none ∧ mget z m k = z ∧ ∀ v, mput m k v = m ++ [(k, v)])
  | [], [], i, _ => .inr ⟨rfl, rfl, fun _ => rfl⟩
  | [], _ :: _, _, h => by simp at h
  | _ :: _, [], _, h => by simp at h
  | e :: es, p :: m, i, h => by
    simp only [List.map_cons, List.cons.injEq, Prod.mk.injEq] at h
    obtain ⟨⟨h1, h2⟩, h3⟩ := h
    unfold Instr.findNow
    rw [h1, hsame]
    by_cases hk : k = p.1
    · subst hk
      refine .inl ⟨0, e, rfl, by simp, h1, by simp [mget, h2], fun v => ?_⟩
      simp [mput, h3]
    · have hk' : ¬ p.1 = k := fun e => hk e.symm
      simp only [hk, decide_false]
      rcases find_spec hsame k z es m (i + 1) h3 with ⟨j, e', g1, g2, g3, g4, g5⟩ | ⟨g1, g2, g3⟩
      · refine .inl ⟨j + 1, e', by simpa using g1, by rw [g2, Nat.add_assoc, Nat.add_comm 1], g3, by simp [mget, hk', g4], fun v => ?_⟩
        simp only [mput, hk', if_false, List.map_cons, List.set_cons_succ, g5 v, h1, h2]
      · exact .inr ⟨g1, by simp [mget, hk', g2], fun v => by simp [mput, hk', g3]⟩
def MapR (b : Nat) (kv : κ → Value) (ev : ε → Value) (m : List (κ × ε)) : Res where
  id := some b
  ok B _ w := B ≤ b ∧ ∃ es clock, w.heap[b]? = some (.map es clock) ∧ es.toList.map (fun e => (e.key, e.val)) = m.map (fun p => (kv p.1, ev p.2)) ∧ (∀ e ∈ es.toList, e.born < clock)
  lt h k hk := by cases hk; obtain ⟨h1, es, c, h2, _⟩ := h; exact ⟨h1, (Array.getElem?_eq_some_iff.1 h2).1⟩
  step hs hk h := by obtain ⟨h1, es, c, h2, h3⟩ := h; exact ⟨h1, es, c, (hk b rfl).trans h2, h3⟩
theorem WL.makeMap {d : Nat} {t : TypeId} (kv : κ → Value) (ev' : ε → Value) (hS : Sta w0 M L Fs w) (hd : Nat.ble (d + 1) N = true)
    (h : ∀ b w', Sta w0 M (MapR b kv ev' [] :: L) Fs w' → WL ro n P ops Q N ((d, .map (some b)) :: env) rest w') :
    WL ro n P ops Q N env (⟨some d, .makeMap t none, ty, pos, aft, none⟩ :: rest) w := by
  have _ := fun a b : κ => (inferInstance : Decidable (a = b))
  refine WL.val (fun a d pos aft g ha => ?_) hd rfl (h w.heap.size (w.alloc (.map #[] 0)) ?_)
  · simp [execOp, Instr.makeMap, newObj, Sem.run]
  · refine hS.more ((Below.refl _ w).alloc (Nat.le_refl _) _) _ (fun k hk => ?_) ⟨hS.bel.size, #[], 0, heap_alloc_new w _, rfl, by simp⟩
    cases hk; exact ⟨Nat.le_refl _, by simp⟩
theorem R_lookup (i : Nat) {t kt et : TypeId} {x ix : Operand} {b sz by_ : Nat} {kv : κ → Value} {ev' : ε → Value} {m : List (κ × ε)} {k : κ} (z : ε) (ht : P.underlying t = some (.map kt et)) (hk : KeyT P kt kv) (he : zinfo P et = some (ev' z, sz, by_))
    (hS : Sta w0 M L Fs w) (hi : L[i]? = some (MapR b kv ev' m)) (hx : ev env x = some (.map (some b))) (hy : ev env ix = some (kv k)) : Runs P N env (.lookup t x ix false) ty w (ev' (mget z m k)) w := fun a d pos aft g ha => by
  obtain ⟨inf, hinf, hz, _, _⟩ := zinfo_parts he
  obtain ⟨_, es, clock, hb, hm, _⟩ := hS.res i hi
  obtain ⟨dsc, hd, hsame⟩ := hk.same
  have e1 := ha.ev hx; have e2 := ha.ev hy
  generalize a.eval = ρ at e1 e2 ⊢
  have hc := hk.chk es.isEmpty k w
  rcases find_spec hsame k z es.toList m 0 hm with ⟨j, e', g1, g2, g3, g4, _⟩ | ⟨g1, g2, _⟩
  · have hf : (Instr.findKey kt (kv k) es.toList).run P w = .ok (some (0 + j, e'.val)) w := by simp [Instr.findKey, run_underlying hd, g2]
    simp [execOp, e1, e2, Instr.lookup, run_underlying ht, getMap hb, hc, hf, g4]
  · have hf : (Instr.findKey kt (kv k) es.toList).run P w = .ok none w := by simp [Instr.findKey, run_underlying hd, g1]
    simp [execOp, e1, e2, Instr.lookup, run_underlying ht, getMap hb, hc, hf, g2, zeroValue, typeInfo, hinf, hz]
theorem WL.mapUpdate (i : Nat) {t kt et : TypeId} {x ix y : Operand} {b : Nat} {kv : κ → Value} {ev' : ε → Value} {m : List (κ × ε)} {k : κ} {v : ε} (ht : P.underlying t = some (.map kt et)) (hk : KeyT P kt kv)
    (hS : Sta w0 M L Fs w) (hi : L[i]? = some (MapR b kv ev' m)) (hx : ev env x = some (.map (some b))) (hix : ev env ix = some (kv k)) (hy : ev env y = some (ev' v))
    (h : ∀ w', Sta w0 M (L.set i (MapR b kv ev' (mput m k v))) Fs w' → WL ro n P ops Q N env rest w') : WL ro n P ops Q N env (⟨none, .mapUpdate t x ix y, ty, pos, aft, none⟩ :: rest) w := by
  obtain ⟨hB, es, clock, hb, hm, hborn⟩ := hS.res i hi
  obtain ⟨dsc, hd, hsame⟩ := hk.same
  have hc := hk.chk false k w
  have hlt : b < w.heap.size := (Array.getElem?_eq_some_iff.1 hb).1
  have put : ∀ (es' : Array MapEntry) (clock' : Nat), es'.toList.map (fun e => (e.key, e.val)) = (mput m k v).map (fun p => (kv p.1, ev' p.2)) → (∀ e ∈ es'.toList, e.born < clock') →
      Sta w0 M (L.set i (MapR b kv ev' (mput m k v))) Fs { w with heap := w.heap.setIfInBounds b (.map es' clock') } := by
    intro es' clock' h1 h2
    refine hS.put i hi _ ⟨by simp, fun q hq hne => ?_, fun q hq => .inl hq⟩ rfl rfl rfl (fun q hq => .inl hq) fun M' hM => ⟨hB, es', clock', by simp [hlt], h1, h2⟩
    have : b ≠ q := fun e => hne (by rw [← e]; rfl)
    simp [Array.getElem?_setIfInBounds, this]
  rcases find_spec (ev := ev') hsame k v es.toList m 0 hm with ⟨j, e', g1, g2, g3, g4, g5⟩ | ⟨g1, g2, g3⟩
  · have hf : (Instr.findKey kt (kv k) es.toList).run P w = .ok (some (j, e'.val)) w := by simp [Instr.findKey, run_underlying hd, g2]
    have ha1 : es[j]? = some e' := by simpa using g1
    have hks : (Instr.keyThatStays (((es[j]?).map (·.key)).getD (kv k)) (kv k)).run P w = .ok (kv k) w := by
      rw [ha1]; simp only [Option.map_some, Option.getD_some, g3]; unfold Instr.keyThatStays; rw [if_pos (hk.bits k)]; rfl
    refine WL.unit (fun a d pos aft g ha => ?_) rfl (h _ (put (es.modify j fun e => { e with key := kv k, val := ev' v }) clock ?_ ?_))
    · have e1 := ha.ev hx; have e2 := ha.ev hix; have e3 := ha.ev hy
      generalize a.eval = ρ at e1 e2 e3 ⊢
      simp [execOp, e1, e2, e3, Instr.mapUpdate, run_underlying ht, getMap hb, hc, hf, hks, setMap _ hb]
    · rw [g5 v, Array.toList_modify]
      congr 1
      apply List.ext_getElem?
      intro q
      rw [List.getElem?_modify, List.getElem?_set]
      by_cases hq : j = q
      · subst hq
        have := (List.getElem?_eq_some_iff.1 g1).1
        rw [if_pos rfl, if_pos this, g1]
        simp
      · simp [hq]
    · intro e he
      rw [Array.toList_modify] at he
      obtain ⟨q, hq⟩ := List.getElem?_of_mem he
      rw [List.getElem?_modify] at hq
      obtain ⟨e0, he0, rfl⟩ := Option.map_eq_some_iff.1 hq
      have := hborn e0 (List.mem_of_getElem? he0)
      split <;> simpa using this
  · have hf : (Instr.findKey kt (kv k) es.toList).run P w = .ok none w := by simp [Instr.findKey, run_underlying hd, g1]
    refine WL.unit (fun a d pos aft g ha => ?_) rfl (h _ (put (es.push { key := kv k, val := ev' v, born := clock }) (clock + 1) ?_ ?_))
    · have e1 := ha.ev hx; have e2 := ha.ev hix; have e3 := ha.ev hy
      generalize a.eval = ρ at e1 e2 e3 ⊢
      simp [execOp, e1, e2, e3, Instr.mapUpdate, run_underlying ht, getMap hb, hc, hf, setMap _ hb]
    · simp [g3, hm]
    · intro e he
      simp only [Array.toList_push, List.mem_append, List.mem_singleton] at he
      rcases he with he | rfl
      · have := hborn e he; omega
      · simp
end
end TK
