/- Words for walks over any program of the model: no statement of a law stands here. -/
import Derived.Test.YtkncaolcedmjnaaGreatDoorTk3
import Derived.Maps.AppendAt
import Derived.Great.BuildSlice
import Derived.Laws.Tables
import Derived.Deep.MidRow
open Go Go.RowKit
namespace TK

/-! ### memory: what stays -/
abbrev MSet := Nat → Prop
structure Stp (M M' : MSet) (w w' : World) : Prop where
  size : w.heap.size ≤ w'.heap.size
  blk : ∀ k, k < w.heap.size → ¬ M k → w'.heap[k]? = w.heap[k]?
  sub : ∀ k, M' k → M k ∨ w.heap.size ≤ k
theorem Stp.refl (M : MSet) (w : World) : Stp M M w w := ⟨Nat.le_refl _, fun _ _ _ => rfl, fun _ h => .inl h⟩
theorem Stp.less {M M' : MSet} (w : World) (h : ∀ k, M' k → M k) : Stp M M' w w := ⟨Nat.le_refl _, fun _ _ _ => rfl, fun _ h' => .inl (h _ h')⟩
theorem Stp.of_below {M : MSet} {w w' : World} (h : Below w.heap.size w w') : Stp M M w w' := ⟨h.size, fun k hk _ => h.block k hk, fun _ h => .inl h⟩
theorem Stp.cell {M M' : MSet} {w w' : World} (h : Stp M M' w w') {a : Addr} {v : Value} (hc : w.cell? a = some v) (hm : ¬ M a.block) : w'.cell? a = some v :=
  (World.cell?_of_block (h.blk _ (World.block_lt_of_cell? w a hc) hm)).trans hc

/-- how values of a Lean type lie in cells; M: blocks that may be written: none of what is read lies there -/
structure Rep (α : Type) where
  sz : Nat
  pos : 0 < sz
  K : MSet → World → α → List Value → Prop
  len : ∀ {M w x cs}, K M w x cs → cs.length = sz
  one : ∀ {M w x cs}, K M w x cs → ∀ c ∈ cs, c.oneCell' = true
  step : ∀ {M M' w w' x cs}, Stp M M' w w' → K M w x cs → K M' w' x cs

def RI (k : IntKind) : Rep Int where
  sz := 1
  pos := Nat.one_pos
  K _ _ x cs := cs = [.int k x]
  len h := by rw [h]; rfl
  one h := by rw [h]; intro c hc; simp at hc; rw [hc]; rfl
  step _ h := h
def RB : Rep Bool where
  sz := 1
  pos := Nat.one_pos
  K _ _ x cs := cs = [.bool x]
  len h := by rw [h]; rfl
  one h := by rw [h]; intro c hc; simp at hc; rw [hc]; rfl
  step _ h := h
/-- binary64, by its bits -/
def RF : Rep Nat where
  sz := 1
  pos := Nat.one_pos
  K _ _ x cs := cs = [.float .f64 x]
  len h := by rw [h]; rfl
  one h := by rw [h]; intro c hc; simp at hc; rw [hc]; rfl
  step _ h := h
def RStr : Rep ByteArray where
  sz := 1
  pos := Nat.one_pos
  K _ _ x cs := cs = [.string x]
  len h := by rw [h]; rfl
  one h := by rw [h]; intro c hc; simp at hc; rw [hc]; rfl
  step _ h := h

/-- a slice's elements -/
def Sl {α : Type} (R : Rep α) (M : MSet) (w : World) (A : Option Addr) (xs : List α) : Prop :=
  xs = [] ∨ ∃ ad, A = some ad ∧ ¬ M ad.block ∧ ∀ i x, xs[i]? = some x → ∃ cs, R.K M w x cs ∧ ∀ j u, cs[j]? = some u → w.cell? (ad.add (i * R.sz + j)) = some u
theorem addr_block (a : Addr) (n : Nat) : (a.add n).block = a.block := by unfold Addr.add; split <;> rfl
theorem addr_add (a : Addr) (m n : Nat) : (a.add m).add n = a.add (m + n) := by
  unfold Addr.add
  by_cases hm : m = 0
  · subst hm; simp
  · by_cases hn : n = 0
    · subst hn; simp
    · simp [hm, hn]; omega
theorem Sl.step {α : Type} {R : Rep α} {M M' : MSet} {w w' : World} {A : Option Addr} {xs : List α} (hs : Stp M M' w w') (h : Sl R M w A xs) : Sl R M' w' A xs := by
  rcases h with h | ⟨ad, hA, hm, h⟩
  · exact .inl h
  · by_cases h0 : xs = []
    · exact .inl h0
    · refine .inr ⟨ad, hA, fun h' => ?_, fun i x hx => ?_⟩
      · rcases hs.sub _ h' with h1 | h1
        · exact hm h1
        · obtain ⟨x, hx⟩ : ∃ x, xs[0]? = some x := by cases xs with | nil => exact absurd rfl h0 | cons x r => exact ⟨x, rfl⟩
          obtain ⟨cs, hK, hc⟩ := h 0 x hx
          obtain ⟨u, hu⟩ : ∃ u, cs[0]? = some u := ⟨_, List.getElem?_eq_getElem (by rw [R.len hK]; exact R.pos)⟩
          have := World.block_lt_of_cell? w _ (hc 0 u hu)
          rw [addr_block] at this
          omega
      · obtain ⟨cs, hK, hc⟩ := h i x hx
        exact ⟨cs, R.step hs hK, fun j u hu => hs.cell (hc j u hu) (by rw [addr_block]; exact hm)⟩
theorem Sl.nil {α : Type} {R : Rep α} {M : MSet} {w : World} {A : Option Addr} : Sl R M w A [] := .inl rfl
theorem Sl.get {α : Type} {R : Rep α} {M : MSet} {w : World} {A : Option Addr} {xs : List α} (h : Sl R M w A xs) {i : Nat} {x : α} (hx : xs[i]? = some x) :
    ∃ ad cs, A = some ad ∧ ¬ M ad.block ∧ R.K M w x cs ∧ ∀ j u, cs[j]? = some u → w.cell? ((ad.add (i * R.sz)).add j) = some u := by
  rcases h with h | ⟨ad, hA, hm, h⟩
  · subst h; simp at hx
  · obtain ⟨cs, hK, hc⟩ := h i x hx
    exact ⟨ad, cs, hA, hm, hK, fun j u hu => by rw [addr_add]; exact hc j u hu⟩
/-- slices as cells -/
def RSl {α : Type} (R : Rep α) : Rep (List α) where
  sz := 1
  pos := Nat.one_pos
  K M w xs cs := ∃ A c, cs = [.slice A xs.length c] ∧ xs.length ≤ c ∧ Sl R M w A xs
  len h := by obtain ⟨A, c, h, _⟩ := h; rw [h]; rfl
  one h := by obtain ⟨A, c, h, _⟩ := h; rw [h]; intro c hc; simp at hc; rw [hc]; rfl
  step hs h := by obtain ⟨A, c, h1, h2, h3⟩ := h; exact ⟨A, c, h1, h2, h3.step hs⟩

/-! ### what the call owns -/
structure Fact where
  p : MSet → World → Prop
  step : ∀ {M M' w w'}, Stp M M' w w' → p M w → p M' w'
structure Res where
  id : Option Nat
  ok : Nat → MSet → World → Prop
  lt : ∀ {B M w}, ok B M w → ∀ k, id = some k → B ≤ k ∧ k < w.heap.size
  step : ∀ {B M M' w w'}, Stp M M' w w' → (∀ k, id = some k → w'.heap[k]? = w.heap[k]?) → ok B M w → ok B M' w'
def Mx (M : MSet) (L : List Res) : MSet := fun k => M k ∨ ∃ r ∈ L, r.id = some k

structure Sta (w0 : World) (M : MSet) (L : List Res) (Fs : List Fact) (w : World) : Prop where
  bel : Below w0.heap.size w0 w
  mlt : ∀ k, M k → k < w0.heap.size
  own : ∀ r ∈ L, r.ok w0.heap.size (Mx M L) w
  dis : L.Pairwise (fun r s => ∀ k, r.id = some k → s.id ≠ some k)
  fac : ∀ f ∈ Fs, f.p (Mx M L) w

section
variable {w0 w w' : World} {M : MSet} {L L' : List Res} {Fs Fs' : List Fact}
theorem Sta.init (hm : ∀ k, M k → k < w.heap.size) : Sta w M [] [] w :=
  ⟨Below.refl _ _, hm, by simp, by simp, by simp⟩
theorem Sta.mx_lt (h : Sta w0 M L Fs w) (k : Nat) (hk : Mx M L k) : k < w.heap.size := by
  rcases hk with hk | ⟨r, hr, hk⟩
  · exact Nat.lt_of_lt_of_le (h.mlt k hk) h.bel.size
  · exact (r.lt (h.own r hr) k hk).2
theorem Sta.addF (h : Sta w0 M L Fs w) (f : Fact) (hf : f.p (Mx M L) w) : Sta w0 M L (f :: Fs) w :=
  ⟨h.bel, h.mlt, h.own, h.dis, fun g hg => by
    rcases List.mem_cons.1 hg with rfl | hg
    · exact hf
    · exact h.fac g hg⟩
theorem Sta.get (h : Sta w0 M L Fs w) (i : Nat) {f : Fact} (hi : Fs[i]? = some f) : f.p (Mx M L) w := h.fac f (List.mem_of_getElem? hi)
theorem Sta.res (h : Sta w0 M L Fs w) (i : Nat) {r : Res} (hi : L[i]? = some r) : r.ok w0.heap.size (Mx M L) w := h.own r (List.mem_of_getElem? hi)

/-- resources at these places -/
def pick {α : Type} (l : List α) : List Nat → List α
  | [] => []
  | i :: r => match l[i]? with
    | some x => x :: pick l r
    | none => pick l r
theorem mem_pick {α : Type} {l : List α} : ∀ {is : List Nat} {x : α}, x ∈ pick l is → ∃ i ∈ is, l[i]? = some x
  | [], x, h => by simp [pick] at h
  | i :: r, x, h => by
    unfold pick at h
    split at h
    · rename_i y hy
      rcases List.mem_cons.1 h with rfl | h
      · exact ⟨i, by simp, hy⟩
      · obtain ⟨j, hj, e⟩ := mem_pick h; exact ⟨j, by simp [hj], e⟩
    · obtain ⟨j, hj, e⟩ := mem_pick h; exact ⟨j, by simp [hj], e⟩
def differ : List Nat → Bool
  | [] => true
  | i :: r => r.all (fun j => !Nat.beq i j) && differ r
theorem pick_pairwise {α : Type} {R : α → α → Prop} (hsym : ∀ a b, R a b → R b a) {l : List α} (h : l.Pairwise R) : ∀ {is : List Nat}, differ is = true → (pick l is).Pairwise R
  | [], _ => by simp [pick]
  | i :: r, hi => by
    simp only [differ, Bool.and_eq_true, List.all_eq_true] at hi
    unfold pick
    split
    · rename_i y hy
      refine List.Pairwise.cons (fun x hx => ?_) (pick_pairwise hsym h hi.2)
      obtain ⟨j, hj, e⟩ := mem_pick hx
      have hne : i ≠ j := by
        intro e
        have := hi.1 j hj
        rw [e] at this
        simp at this
      rw [List.pairwise_iff_getElem] at h
      obtain ⟨h1, e1⟩ := List.getElem?_eq_some_iff.1 hy
      obtain ⟨h2, e2⟩ := List.getElem?_eq_some_iff.1 e
      rcases Nat.lt_or_gt_of_ne hne with hlt | hlt
      · have := h i j h1 h2 hlt
        rw [e1, e2] at this; exact this
      · have := h j i h2 h1 hlt
        rw [e1, e2] at this; exact hsym _ _ this
    · exact pick_pairwise hsym h hi.2
theorem mx_pick {is : List Nat} {k : Nat} (h : Mx M (pick L is) k) : Mx M L k := by
  rcases h with h | ⟨r, hr, h⟩
  · exact .inl h
  · obtain ⟨i, _, e⟩ := mem_pick hr; exact .inr ⟨r, List.mem_of_getElem? e, h⟩
theorem Sta.pick (h : Sta w0 M L Fs w) (is js : List Nat) (hi : differ is = true) : Sta w0 M (TK.pick L is) (TK.pick Fs js) w := by
  have hs : Stp (Mx M L) (Mx M (TK.pick L is)) w w := Stp.less w fun k hk => mx_pick hk
  refine ⟨h.bel, h.mlt, fun r hr => ?_, pick_pairwise (fun a b hab k hk e => hab k e hk) h.dis hi, fun f hf => ?_⟩
  · obtain ⟨i, _, e⟩ := mem_pick hr; exact r.step hs (fun _ _ => rfl) (h.own r (List.mem_of_getElem? e))
  · obtain ⟨i, _, e⟩ := mem_pick hf; exact f.step hs (h.fac f (List.mem_of_getElem? e))
/-- whatever a call, a draw or new memory leave alone -/
theorem Sta.ext (h : Sta w0 M L Fs w) (hb : Below w.heap.size w w') : Sta w0 M L Fs w' := by
  have hs : Stp (Mx M L) (Mx M L) w w' := Stp.of_below hb
  refine ⟨h.bel.trans (hb.mono h.bel.size), h.mlt, fun r hr => ?_, h.dis, fun f hf => f.step hs (h.fac f hf)⟩
  exact r.step hs (fun k hk => hb.block k (r.lt (h.own r hr) k hk).2) (h.own r hr)
/-- a resource more, all of whose memory is new -/
theorem Sta.more (h : Sta w0 M L Fs w) (hb : Below w.heap.size w w') (r : Res) (hid : ∀ k, r.id = some k → w.heap.size ≤ k ∧ k < w'.heap.size) (hr : r.ok w0.heap.size (Mx M (r :: L)) w') : Sta w0 M (r :: L) Fs w' := by
  have hs : Stp (Mx M L) (Mx M (r :: L)) w w' := ⟨hb.size, fun k hk _ => hb.block k hk, fun k hk => by
    rcases hk with hk | ⟨s, hs, hk⟩
    · exact .inl (.inl hk)
    · rcases List.mem_cons.1 hs with rfl | hs
      · exact .inr (hid k hk).1
      · exact .inl (.inr ⟨s, hs, hk⟩)⟩
  refine ⟨h.bel.trans (hb.mono h.bel.size), h.mlt, fun s hs' => ?_, ?_, fun f hf => f.step hs (h.fac f hf)⟩
  · rcases List.mem_cons.1 hs' with rfl | hs'
    · exact hr
    · exact s.step hs (fun k hk => hb.block k (s.lt (h.own s hs') k hk).2) (h.own s hs')
  · refine List.Pairwise.cons (fun s hs' k hk e => ?_) h.dis
    have := (s.lt (h.own s hs') k e).2
    have := (hid k hk).1
    omega
/-- one resource is written over -/
theorem Sta.put (h : Sta w0 M L Fs w) (i : Nat) {r : Res} (hi : L[i]? = some r) (r' : Res) (hg : Stp (fun k => r.id = some k) (fun k => r.id = some k) w w') (hos : w'.os = w.os) (htp : w'.tape = w.tape) (hot : w'.output = w.output)
    (hid : ∀ k, r'.id = some k → r.id = some k ∨ (w.heap.size ≤ k ∧ k < w'.heap.size)) (hr : ∀ M', (∀ k, M' k → Mx M L k ∨ w.heap.size ≤ k) → r'.ok w0.heap.size M' w') : Sta w0 M (L.set i r') Fs w' := by
  have hil : i < L.length := (List.getElem?_eq_some_iff.1 hi).1
  have hri := h.own r (List.mem_of_getElem? hi)
  have hmx : ∀ k, Mx M (L.set i r') k → Mx M L k ∨ w.heap.size ≤ k := by
    intro k hk
    rcases hk with hk | ⟨s, hs, hk⟩
    · exact .inl (.inl hk)
    · rcases List.mem_or_eq_of_mem_set hs with hs | rfl
      · exact .inl (.inr ⟨s, hs, hk⟩)
      · rcases hid k hk with e | e
        · exact .inl (.inr ⟨r, List.mem_of_getElem? hi, e⟩)
        · exact .inr e.1
  have hs : Stp (Mx M L) (Mx M (L.set i r')) w w' := ⟨hg.size, fun k hk hn => hg.blk k hk (fun e => hn (.inr ⟨r, List.mem_of_getElem? hi, e⟩)), hmx⟩
  have hother : ∀ j s, j ≠ i → L[j]? = some s → ∀ k, s.id = some k → r.id ≠ some k := by
    intro j s hj hs k hk
    obtain ⟨h1, e1⟩ := List.getElem?_eq_some_iff.1 hs
    obtain ⟨h2, e2⟩ := List.getElem?_eq_some_iff.1 hi
    have hd := h.dis
    rw [List.pairwise_iff_getElem] at hd
    rcases Nat.lt_or_gt_of_ne hj with hlt | hlt
    · have := hd j i h1 h2 hlt k; rw [e1, e2] at this; exact this hk
    · intro e; have := hd i j h2 h1 hlt k; rw [e1, e2] at this; exact this e hk
  refine ⟨?_, h.mlt, fun s hs' => ?_, ?_, fun f hf => f.step hs (h.fac f hf)⟩
  · refine h.bel.trans ⟨hos, htp, hot, hg.size, fun k hk => hg.blk k (Nat.lt_of_lt_of_le hk h.bel.size) fun e => ?_⟩
    have := (r.lt hri k e).1
    omega
  · obtain ⟨j, hj⟩ := List.getElem?_of_mem hs'
    rw [List.getElem?_set] at hj
    by_cases e : i = j
    · subst e
      rw [if_pos rfl] at hj
      simp only [hil, if_true, Option.some.injEq] at hj
      subst hj; exact hr _ hmx
    · rw [if_neg e] at hj
      have hs1 := h.own s (List.mem_of_getElem? hj)
      exact s.step hs (fun k hk => hg.blk k (s.lt hs1 k hk).2 (hother j s (Ne.symm e) hj k hk)) hs1
  · rw [List.pairwise_iff_getElem]
    intro a b ha hb hab k hk e
    simp only [List.length_set] at ha hb
    have hd := h.dis
    rw [List.pairwise_iff_getElem] at hd
    rw [List.getElem_set] at hk e
    by_cases ea : i = a
    · subst ea
      rw [if_pos rfl] at hk
      rw [if_neg (by omega)] at e
      rcases hid k hk with h1 | h1
      · exact hother b L[b] (by omega) (List.getElem?_eq_getElem hb) k e h1
      · have := (L[b].lt (h.own _ (List.getElem_mem hb)) k e).2; omega
    · rw [if_neg ea] at hk
      by_cases eb : i = b
      · subst eb
        rw [if_pos rfl] at e
        rcases hid k e with h1 | h1
        · exact hother a L[a] (by omega) (List.getElem?_eq_getElem ha) k hk h1
        · have := (L[a].lt (h.own _ (List.getElem_mem ha)) k hk).2; omega
      · rw [if_neg eb] at e
        exact hd a b ha hb hab k hk e
end

/-! the kinds of what is owned -/
def Blk (b : Nat) (cs : List Value) (T : TypeId) : Res where
  id := some b
  ok B _ w := B ≤ b ∧ w.heap[b]? = some (.cells cs.toArray T (0, 0))
  lt h k hk := by cases hk; exact ⟨h.1, (Array.getElem?_eq_some_iff.1 h.2).1⟩
  step hs hk h := ⟨h.1, (hk b rfl).trans h.2⟩
/-- each element's cells -/
def Elems {α : Type} (R : Rep α) (M : MSet) (w : World) : List α → List Value → Prop
  | [], vs => vs = []
  | x :: r, vs => ∃ cs rest, vs = cs ++ rest ∧ R.K M w x cs ∧ Elems R M w r rest
theorem Elems.step {α : Type} {R : Rep α} {M M' : MSet} {w w' : World} (hs : Stp M M' w w') : ∀ {xs : List α} {vs : List Value}, Elems R M w xs vs → Elems R M' w' xs vs
  | [], _, h => h
  | _ :: _, _, ⟨cs, rest, e, hK, h⟩ => ⟨cs, rest, e, R.step hs hK, h.step hs⟩
theorem Elems.append {α : Type} {R : Rep α} {M : MSet} {w : World} : ∀ {xs ys : List α} {vs us : List Value}, Elems R M w xs vs → Elems R M w ys us → Elems R M w (xs ++ ys) (vs ++ us)
  | [], _, _, _, h, k => by rw [h]; exact k
  | _ :: _, _, _, _, ⟨cs, rest, e, hK, h⟩, k => ⟨cs, rest ++ _, by rw [e, List.append_assoc], hK, h.append k⟩
theorem Elems.length {α : Type} {R : Rep α} {M : MSet} {w : World} : ∀ {xs : List α} {vs : List Value}, Elems R M w xs vs → vs.length = xs.length * R.sz
  | [], _, h => by rw [h]; simp
  | x :: r, _, ⟨cs, rest, e, hK, h⟩ => by rw [e, List.length_append, R.len hK, h.length, List.length_cons, Nat.succ_mul, Nat.add_comm]
theorem Elems.one {α : Type} {R : Rep α} {M : MSet} {w : World} : ∀ {xs : List α} {vs : List Value}, Elems R M w xs vs → ∀ c ∈ vs, c.oneCell' = true
  | [], _, h, c, hc => by rw [h] at hc; simp at hc
  | _ :: _, _, ⟨cs, rest, e, hK, h⟩, c, hc => by
    rw [e, List.mem_append] at hc
    rcases hc with hc | hc
    · exact R.one hK c hc
    · exact h.one c hc
theorem Elems.get {α : Type} {R : Rep α} {M : MSet} {w : World} : ∀ {xs : List α} {vs : List Value}, Elems R M w xs vs → ∀ {i x}, xs[i]? = some x → ∃ cs, R.K M w x cs ∧ ∀ j u, cs[j]? = some u → vs[i * R.sz + j]? = some u
  | [], _, h, i, x, hx => by simp at hx
  | y :: r, _, ⟨cs, rest, e, hK, h⟩, i, x, hx => by
    cases i with
    | zero =>
      simp only [List.getElem?_cons_zero, Option.some.injEq] at hx
      subst hx
      exact ⟨cs, hK, fun j u hu => by
        rw [e, Nat.zero_mul, Nat.zero_add, List.getElem?_append_left (List.getElem?_eq_some_iff.1 hu).1]; exact hu⟩
    | succ i =>
      simp only [List.getElem?_cons_succ] at hx
      obtain ⟨cs', hK', hc⟩ := h.get hx
      refine ⟨cs', hK', fun j u hu => ?_⟩
      rw [e, List.getElem?_append_right (by rw [R.len hK, Nat.succ_mul]; omega)]
      have : (i + 1) * R.sz + j - cs.length = i * R.sz + j := by rw [R.len hK, Nat.succ_mul]; omega
      rw [this]; exact hc j u hu
theorem Elems.set {α : Type} {R : Rep α} {M : MSet} {w : World} : ∀ {xs : List α} {vs : List Value}, Elems R M w xs vs → ∀ {i x} {cs : List Value}, i < xs.length → R.K M w x cs → Elems R M w (xs.set i x) (vs.take (i * R.sz) ++ cs ++ vs.drop (i * R.sz + R.sz))
  | [], _, h, i, x, cs, hi, hK => by simp at hi
  | y :: r, _, ⟨ds, rest, e, hd, h⟩, i, x, cs, hi, hK => by
    have hl := R.len hd
    cases i with
    | zero =>
      refine ⟨cs, rest, ?_, hK, h⟩
      simp only [Nat.zero_mul, List.take_zero, List.nil_append, Nat.zero_add]
      rw [e, List.drop_left' hl]
    | succ i =>
      refine ⟨ds, _, ?_, hd, h.set (by simpa using hi) hK⟩
      have h1 : (i + 1) * R.sz = ds.length + i * R.sz := by rw [hl, Nat.succ_mul, Nat.add_comm]
      rw [e, h1, List.take_append, List.take_of_length_le (by omega), Nat.add_sub_cancel_left, Nat.add_assoc, List.drop_append, List.drop_eq_nil_of_le (by omega), Nat.add_sub_cancel_left]
      simp
theorem Elems.take {α : Type} {R : Rep α} {M : MSet} {w : World} : ∀ {xs : List α} {vs : List Value}, Elems R M w xs vs → ∀ (m : Nat), Elems R M w (xs.take m) (vs.take (m * R.sz))
  | [], _, h, m => by rw [h]; simp [Elems]
  | y :: r, _, ⟨ds, rest, e, hd, h⟩, m => by
    have hl := R.len hd
    cases m with
    | zero => simp [Elems]
    | succ m =>
      refine ⟨ds, rest.take (m * R.sz), ?_, hd, h.take m⟩
      have h1 : (m + 1) * R.sz = ds.length + m * R.sz := by rw [hl, Nat.succ_mul, Nat.add_comm]
      rw [e, h1, List.take_append, List.take_of_length_le (by omega), Nat.add_sub_cancel_left]

/-- a slice that the call made, or none: it may be appended to and written -/
def Row {α : Type} (R : Rep α) (e : TypeId) (v : Value) (ys : List α) : Res where
  id := v.ownBlock
  ok B M w := ∃ xs, w.ownsRow B e R.sz v ys.length xs ∧ Elems R M w ys xs
  lt h k hk := by obtain ⟨xs, h, _⟩ := h; exact h.lt k hk
  step hs hk h := by
    obtain ⟨xs, ⟨h1, h2⟩, h3⟩ := h
    refine ⟨xs, ⟨h1, ?_⟩, h3.step hs⟩
    rcases h2 with h2 | ⟨g, cap, cur, hv, hg, hh, r⟩
    · exact .inl h2
    · exact .inr ⟨g, cap, cur, hv, hg, by rw [hk g (by rw [hv]; rfl)]; exact hh, r⟩
theorem Row.slice {α : Type} {R : Rep α} {e : TypeId} {v : Value} {ys : List α} {B : Nat} {M : MSet} {w : World} (h : (Row R e v ys).ok B M w) : ∃ A c, v = .slice A ys.length c ∧ ys.length ≤ c := by
  obtain ⟨xs, ⟨_, h2⟩, _⟩ := h
  rcases h2 with ⟨rfl, h0⟩ | ⟨g, cap, cur, hv, _, _, hn, _⟩
  · exact ⟨none, 0, by rw [h0], by omega⟩
  · exact ⟨_, cap, hv, hn⟩
def FSl {α : Type} (R : Rep α) (A : Option Addr) (c : Nat) (xs : List α) : Fact where
  p M w := xs.length ≤ c ∧ Sl R M w A xs
  step hs h := ⟨h.1, h.2.step hs⟩
theorem Sta.sl {α : Type} {R : Rep α} {A : Option Addr} {c : Nat} {xs : List α} {w0 w : World} {M : MSet} {L : List Res} {Fs : List Fact} (h : Sta w0 M L Fs w) (i : Nat) (hi : Fs[i]? = some (FSl R A c xs)) : xs.length ≤ c ∧ Sl R (Mx M L) w A xs := h.get i hi
theorem Sta.out {α : Type} {R : Rep α} {A : Option Addr} {c : Nat} {xs : List α} {w0 w : World} {M : MSet} {L : List Res} {Fs : List Fact} (h : Sta w0 M L Fs w) (i : Nat) (hi : Fs[i]? = some (FSl R A c xs)) : xs.length ≤ c ∧ Sl R M w A xs :=
  ⟨(h.sl i hi).1, (h.sl i hi).2.step (Stp.less w fun _ hk => .inl hk)⟩
theorem Sta.arg {α : Type} {R : Rep α} {A : Option Addr} {c : Nat} {xs : List α} {w : World} {M : MSet} {Fs : List Fact} (h : Sta w M [] Fs w) (hx : xs.length ≤ c ∧ Sl R M w A xs) : Sta w M [] (FSl R A c xs :: Fs) w :=
  h.addF _ ⟨hx.1, hx.2.step (Stp.less w fun k hk => by rcases hk with hk | ⟨r, hr, _⟩; exact hk; cases hr)⟩
def FK {α : Type} (R : Rep α) (x : α) (cs : List Value) : Fact where
  p M w := R.K M w x cs
  step hs h := R.step hs h
end TK
