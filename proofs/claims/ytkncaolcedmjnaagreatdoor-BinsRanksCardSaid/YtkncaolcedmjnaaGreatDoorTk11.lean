/- Words for walks over any program of the model: no statement of a law stands here. -/
import Derived.Test.YtkncaolcedmjnaaGreatDoorTk10
import Derived.OrdersIn
open Go Go.RowKit
namespace TK
/-! regions that draw their order and write: quiet operations first, the others one by one, whichever comes up -/
section
variable {n : Nat} {P : Program} {N : Nat} {env env' : Env} {w0 w w' : World} {ops : Array Oper} {ty : TypeId} {pos : String} {aft : Array Edge} {rest : List Oper}
variable {M : MSet} {L : List Res} {Fs : List Fact} {α : Type} {R : Rep α} {e : TypeId} {S : World → Prop} {K : Act → World → Prop}

def Nrm (K : Act → World → Prop) (e : Exit) (a : Act) (w : World) : Prop := e = .normal ∧ K a w
def Still (P : Program) (ops : Array Oper) (S : World → Prop) (o : Oper) (v : Value) (a : Act) : Prop :=
  (Region.wanted o (yielded ops a.tmps) = true ∧ ∀ w, S w → (execOp a.eval o).run P w = .ok (.value v) w) ∨ (Region.wanted o (yielded ops a.tmps) = false ∧ v = undef)
theorem Still.of_same {o : Oper} {v : Value} {a a' : Act} (hy : Still P ops S o v a) (he : execOp a'.eval o = execOp a.eval o) (hw : Region.wanted o (yielded ops a'.tmps) = Region.wanted o (yielded ops a.tmps)) : Still P ops S o v a' := by
  unfold Still at *; rw [he, hw]; exact hy
theorem Still.op {Q : Exit → Act → World → Prop} {i : Nat} {o : Oper} {v : Value} {a : Act} (hi : ops[i]? = some o) (hy : Still P ops S o v a) {K : Act → World → Prop} {w : World} (hS : S w) (h : K (a.put o.dst v) w) :
    wpOpIn (fr none) n P ops Q i K a w := by
  unfold wpOpIn
  simp only [hi]
  rcases hy with ⟨hw, hv⟩ | ⟨hw, rfl⟩
  · simp only [hw, if_true, Oper.wpIn, Oper.semAt_none, hv w hS, Oper.uponIn]; exact ⟨fun _ _ => trivial, h⟩
  · simp only [hw, Bool.false_eq_true, if_false]; exact ⟨fun _ _ => trivial, h⟩
def AH (n : Nat) (P : Program) (ops : Array Oper) (S : World → Prop) (K : Act → World → Prop) : Nat → Array Bool → Act → World → Prop
  | 0, listed, a, w => Region.ready .any ops listed = [] ∧ K a w
  | fuel + 1, listed, a, w => (Region.ready .any ops listed = [] → K a w) ∧
    ∀ i ∈ Region.ready .any ops listed, wpOpIn (fr none) n P ops (Nrm K) i (fun a' w' => S w' ∧ AH n P ops S K fuel (listed.setIfInBounds i true) a' w') a w
theorem AH.any : ∀ (fuel : Nat) (listed : Array Bool) (a : Act) (w : World), AH n P ops S K fuel listed a w → wpAnyIn (fr none) n P .any ops (Nrm K) fuel listed a w
  | 0, _, _, _, h => ⟨h.1, rfl, h.2⟩
  | fuel + 1, _, _, _, h => ⟨fun h0 => ⟨rfl, h.1 h0⟩, fun i hi => wpOpIn_mono (fun a' w' h' => AH.any fuel _ a' w' h'.2) (h.2 i hi)⟩
theorem Still.put {j : Nat} {oi oj : Oper} {v : Value} (hj : ops[j]? = some oj) (hap : oi.apart ops oj = true) (hsi : ∀ cs b, oi.op ≠ .select cs b) (hsj : ∀ cs b, oj.op ≠ .select cs b)
    {K' : Act → World → Prop} {a : Act} {w : World} (hy : Still P ops S oi v a) (h : wpOpIn (fr none) n P ops (Nrm K) j K' (a.put oi.dst v) w) :
    wpOpIn (fr none) n P ops (Nrm K) j (fun a' w' => Still P ops S oi v a' ∧ K' (a'.put oi.dst v) w') a w := by
  obtain ⟨h1, h2, h3⟩ := Oper.apart_spec hap
  have keep : ∀ (a : Act), Still P ops S oi v a → ∀ u, Still P ops S oi v (a.put oj.dst u) := fun a hy u =>
    hy.of_same (execOp_put oi hsi a oj.dst u h3) (wanted_put oi a oj.dst u h3)
  have keepD : ∀ d, Still P ops S oi v { a with defers := d :: a.defers } := fun d => hy.of_same rfl rfl
  unfold wpOpIn at *
  simp only [hj] at *
  rw [wanted_put oj a oi.dst v h1] at h
  split
  · rename_i hw
    simp only [hw, if_true] at h
    unfold Oper.wpIn at *
    refine ⟨fun _ _ => trivial, ?_⟩
    have h := h.2
    rw [Oper.semAt_none, execOp_put oj hsj a oi.dst v h1] at h
    rw [Oper.semAt_none]
    generalize (execOp a.eval oj).run P w = r at *
    cases r with
    | ok x w' =>
      cases x <;> simp only [Oper.uponIn] at h ⊢
      case value u => exact ⟨keep a hy u, by rw [← Act.put_comm a v u h2]; exact h⟩
      case skip => exact ⟨keep a hy _, by rw [← Act.put_comm a v undef h2]; exact h⟩
      case defer d =>
        refine ⟨keep _ (keepD d) _, ?_⟩
        rw [← Act.put_comm _ v undef h2, ← Act.put_defers]
        exact h
      case enter f args =>
        refine ⟨h.1, CallsIn.mono h.2 fun e w'' he => ?_⟩
        cases e with
        | returned u => exact ⟨keep a hy u, by rw [← Act.put_comm a v u h2]; exact he⟩
        | panicked c => exact absurd he.1 (by simp)
        | outgrown => exact he
      case row row args => exact ⟨h.1, RowsIn.mono h.2 fun u w'' he => ⟨keep a hy u, by rw [← Act.put_comm a v u h2]; exact he⟩⟩
      case round l f tmps assign body =>
        refine ⟨h.1, RoundIn.mono h.2 fun e w'' he => ?_⟩
        cases e with
        | returned u => exact ⟨keep a hy u, by rw [← Act.put_comm a v u h2]; exact he⟩
        | panicked c => exact absurd he.1 (by simp)
        | outgrown => exact he
    | halt x w' =>
      cases x <;> simp only [Oper.uponIn] at h ⊢
      case panic u => exact absurd h.1 (by simp)
  · rename_i hw
    simp only [hw] at h
    exact ⟨fun _ _ => trivial, keep a hy _, by rw [← Act.put_comm a v undef h2]; exact h.2⟩
theorem AH.first {i : Nat} {oi : Oper} {v : Value} (hi : ops[i]? = some oi) (hsel : ∀ (j : Nat) (o : Oper) cs b, ops[j]? = some o → o.op ≠ .select cs b) :
    ∀ (fuel : Nat) (listed : Array Bool) (a : Act) (w : World),
      (∀ j oj, ops[j]? = some oj → j ≠ i → listed.getD j true = false → (∀ e ∈ oj.after, Region.binds .any e = true → e.on ≠ i) → oi.apart ops oj = true) →
      i ∈ Region.ready .any ops listed → Still P ops S oi v a → S w →
      AH n P ops S K fuel (listed.setIfInBounds i true) (a.put oi.dst v) w → AH n P ops S K (fuel + 1) listed a w := by
  intro fuel
  induction fuel with
  | zero =>
    intro listed a w _ hr hy hS H
    refine ⟨fun h => (by rw [h] at hr; cases hr), fun j hj => ?_⟩
    by_cases hji : j = i
    · subst hji; exact hy.op hi hS ⟨hS, H⟩
    · have := ready_mono hj hji
      rw [H.1] at this
      cases this
  | succ fuel ih =>
    intro listed a w hfree hr hy hS H
    refine ⟨fun h => (by rw [h] at hr; cases hr), fun j hj => ?_⟩
    by_cases hji : j = i
    · subst hji; exact hy.op hi hS ⟨hS, H⟩
    · have h1 := H.2 j (ready_mono hj hji)
      obtain ⟨hjun, oj, hoj, hall⟩ := mem_ready.1 hj
      have hnot : ∀ e ∈ oj.after, Region.binds .any e = true → e.on ≠ i := fun e he hb heq => by
        have h1 := hall e he hb
        have h0 := (mem_ready.1 hr).1
        rw [heq] at h1
        rcases Nat.lt_or_ge i listed.size with h' | h'
        · simp [h'] at h0 h1; rw [h0] at h1; cases h1
        · simp [Array.getElem?_eq_none h'] at h1
      have h2 := Still.put hoj (hfree j oj hoj hji hjun hnot) (fun cs b => hsel i oi cs b hi) (fun cs b => hsel j oj cs b hoj) hy h1
      have hfree' : ∀ k ok, ops[k]? = some ok → k ≠ i → (listed.setIfInBounds j true).getD k true = false →
          (∀ e ∈ ok.after, Region.binds .any e = true → e.on ≠ i) → oi.apart ops ok = true := fun k ok hk hki hun hno => by
        refine hfree k ok hk hki ?_ hno
        by_cases hjk : j = k
        · subst hjk; exact hjun
        · rw [getD_set_ne true hjk] at hun; exact hun
      refine wpOpIn_mono (fun a' w' h3 => ⟨h3.2.1, ih (listed.setIfInBounds j true) a' w' hfree' (ready_mono hr (Ne.symm hji)) h3.1 h3.2.1 ?_⟩) h2
      rw [Array.setIfInBounds_comm _ _ hji]
      exact h3.2.2

/-! the moves -/
def HL (n : Nat) (P : Program) (ops : Array Oper) (S : World → Prop) (K : Act → World → Prop) (N : Nat) (env : Env) (fuel : Nat) (listed : Array Bool) (w : World) : Prop := ∀ a, Ag N env a → AH n P ops S K fuel listed a w
def HO (n : Nat) (P : Program) (ops : Array Oper) (S : World → Prop) (K : Act → World → Prop) (N : Nat) (env : Env) (fuel : Nat) (listed : Array Bool) (w : World) (i : Nat) : Prop :=
  ∀ a, Ag N env a → wpOpIn (fr none) n P ops (Nrm K) i (fun a' w' => S w' ∧ AH n P ops S K fuel (listed.setIfInBounds i true) a' w') a w
def AllL (p : Nat → Prop) : List Nat → Prop
  | [] => True
  | i :: r => p i ∧ AllL p r
theorem AllL.mem {p : Nat → Prop} : ∀ {l : List Nat}, AllL p l → ∀ i ∈ l, p i
  | _ :: _, h, i, hi => by rcases List.mem_cons.1 hi with rfl | hi; exact h.1; exact AllL.mem h.2 i hi
theorem WC.held {id m : Nat} {l : List Oper} {Q : Exit → Act → World → Prop} (S : World → Prop) (hm : P.follows .mixedOrders = true) (hS : Sta w0 M L Fs w) (hsz : l.toArray.size = m)
    (h : ∀ w', Sta w0 M L Fs w' → HL n P l.toArray S (Q .normal) N env m (Array.replicate m false) w') : WC none n P Q N env (.region id l.toArray true) w := fun a ha => by
  subst hsz
  refine wpIn_mono (Q := Nrm (Q .normal)) (wpIn_region_any hm (AH.any _ _ _ _ (h { w with drawn := w.drawn + 1 } (hS.ext ⟨rfl, rfl, rfl, Nat.le_refl _, fun _ _ => rfl⟩) a ha))) ?_
  rintro e a w ⟨rfl, h⟩
  exact h
theorem HL.val (i : Nat) {fuel : Nat} {listed : Array Bool} (listed' : Array Bool) {d : Nat} {op : Op} {v : Value} (hi : ops[i]? = some ⟨some d, op, ty, pos, aft, none⟩) (hs : Region.noSelect ops = true) (hf : Region.free .any ops listed i = true)
    (hr : (Region.ready .any ops listed).contains i = true) (hl : listed.setIfInBounds i true = listed') (hd : Nat.ble (d + 1) N = true) (hS : S w) (hy : ∀ w', S w' → Runs P N env op ty w' v w')
    (h : HL n P ops S K N ((d, v) :: env) fuel listed' w) : HL n P ops S K N env (fuel + 1) listed w := fun a ha => by
  subst hl
  exact AH.first hi (Region.noSelect_spec hs) fuel listed a w (Region.free_spec hi hf) (by simpa using hr) (.inl ⟨by simp [Region.wanted], fun w' hw' => hy w' hw' a _ _ _ _ ha⟩) hS (h _ (ha.put (Nat.le_of_ble_eq_true hd) v))
theorem HL.gvalb (i : Nat) {fuel : Nat} {listed : Array Bool} (listed' : Array Bool) {d j dj : Nat} {oj : Oper} {b c : Bool} {op : Op} {v : Value} (hi : ops[i]? = some ⟨some d, op, ty, pos, aft, some (j, c)⟩) (hj : ops[j]? = some oj) (hdj : oj.dst = some dj) (hlk : lk env dj = some (.bool b)) (hb : b = c)
    (hs : Region.noSelect ops = true) (hf : Region.free .any ops listed i = true)
    (hr : (Region.ready .any ops listed).contains i = true) (hl : listed.setIfInBounds i true = listed') (hd : Nat.ble (d + 1) N = true) (hS : S w) (hy : ∀ w', S w' → Runs P N env op ty w' v w')
    (h : HL n P ops S K N ((d, v) :: env) fuel listed' w) : HL n P ops S K N env (fuel + 1) listed w := fun a ha => by
  subst hl; subst hb
  exact AH.first hi (Region.noSelect_spec hs) fuel listed a w (Region.free_spec hi hf) (by simpa using hr) (.inl ⟨by simp [Region.wanted, yielded_of hj hdj ha hlk], fun w' hw' => hy w' hw' a _ _ _ _ ha⟩) hS (h _ (ha.put (Nat.le_of_ble_eq_true hd) v))
theorem HL.gskip (i : Nat) {fuel : Nat} {listed : Array Bool} (listed' : Array Bool) {d j dj : Nat} {oj : Oper} {b c : Bool} {op : Op} (hi : ops[i]? = some ⟨some d, op, ty, pos, aft, some (j, c)⟩) (hj : ops[j]? = some oj) (hdj : oj.dst = some dj) (hlk : lk env dj = some (.bool b)) (hb : b = !c)
    (hs : Region.noSelect ops = true) (hf : Region.free .any ops listed i = true)
    (hr : (Region.ready .any ops listed).contains i = true) (hl : listed.setIfInBounds i true = listed') (hd : Nat.ble (d + 1) N = true) (hS : S w)
    (h : HL n P ops S K N ((d, undef) :: env) fuel listed' w) : HL n P ops S K N env (fuel + 1) listed w := fun a ha => by
  subst hl
  exact AH.first hi (Region.noSelect_spec hs) fuel listed a w (Region.free_spec hi hf) (by simpa using hr) (.inr ⟨by simp [Region.wanted, yielded_of hj hdj ha hlk, hb], rfl⟩) hS (h _ (ha.put (Nat.le_of_ble_eq_true hd) undef))
theorem HL.gskipU (i : Nat) {fuel : Nat} {listed : Array Bool} (listed' : Array Bool) {d j dj : Nat} {oj : Oper} {c : Bool} {op : Op} (hi : ops[i]? = some ⟨some d, op, ty, pos, aft, some (j, c)⟩) (hj : ops[j]? = some oj) (hdj : oj.dst = some dj) (hlk : lk env dj = some undef)
    (hs : Region.noSelect ops = true) (hf : Region.free .any ops listed i = true)
    (hr : (Region.ready .any ops listed).contains i = true) (hl : listed.setIfInBounds i true = listed') (hd : Nat.ble (d + 1) N = true) (hS : S w)
    (h : HL n P ops S K N ((d, undef) :: env) fuel listed' w) : HL n P ops S K N env (fuel + 1) listed w := fun a ha => by
  subst hl
  exact AH.first hi (Region.noSelect_spec hs) fuel listed a w (Region.free_spec hi hf) (by simpa using hr) (.inr ⟨by simp [Region.wanted, yielded_undef hj hdj ha hlk], rfl⟩) hS (h _ (ha.put (Nat.le_of_ble_eq_true hd) undef))
theorem HL.all {fuel : Nat} {listed : Array Bool} (rs : List Nat) (hr : Region.ready .any ops listed = rs) (hne : rs.isEmpty = false) (h : AllL (HO n P ops S K N env fuel listed w) rs) : HL n P ops S K N env (fuel + 1) listed w := fun a ha =>
  ⟨fun h0 => by rw [h0] at hr; subst hr; simp at hne, fun i hi => AllL.mem h i (hr ▸ hi) a ha⟩
theorem HL.done {fuel : Nat} {listed : Array Bool} (hr : Region.ready .any ops listed = []) (h : ∀ a, Ag N env a → K a w) : HL n P ops S K N env fuel listed w := fun a ha => by
  cases fuel with
  | zero => exact ⟨hr, h a ha⟩
  | succ f => exact ⟨fun _ => h a ha, by rw [hr]; simp⟩
/-- one that writes: by the word for a list of it alone -/
theorem HO.of {fuel : Nat} {listed : Array Bool} (listed' : Array Bool) {i : Nat} {o : Oper} (hi : ops[i]? = some o) (hl : listed.setIfInBounds i true = listed')
    (h : WL none n P ops (Nrm fun a' w' => S w' ∧ AH n P ops S K fuel listed' a' w') N env [o] w) : HO n P ops S K N env fuel listed w i := fun a ha => by
  subst hl
  have h1 := h a ha
  unfold wpListIn at h1
  unfold wpOpIn
  simp only [hi]
  split
  · rename_i hw
    rw [if_pos hw] at h1
    refine ⟨fun _ _ => trivial, ?_⟩
    have h2 := h1.2
    simp only [wpListIn] at h2
    unfold Oper.uponIn at *
    generalize hr : (o.semAt (fr none).round a.eval).run P w = r at *
    cases r with
    | ok x w' =>
      cases x <;> simp only at h2 ⊢
      case value u => exact h2.2
      case skip => exact h2.2
      case defer d => exact h2.2
      case enter f args =>
        refine ⟨h2.1, CallsIn.mono h2.2 fun e w'' he => ?_⟩
        cases e with
        | returned u => exact he.2
        | panicked c => exact absurd he.1 (by simp)
        | outgrown => obtain ⟨_, _, he⟩ := he; exact absurd he.1 (by simp)
      case row row args => exact ⟨h2.1, RowsIn.mono h2.2 fun u w'' he => he.2⟩
      case round l f tmps assign body =>
        refine ⟨h2.1, RoundIn.mono h2.2 fun e w'' he => ?_⟩
        cases e with
        | returned u => exact he.2
        | panicked c => exact absurd he.1 (by simp)
        | outgrown => obtain ⟨_, _, he⟩ := he; exact absurd he.1 (by simp)
    | halt x w' =>
      cases x <;> simp only at h2 ⊢
      case panic u => exact absurd h2.1 (by simp)
  · rename_i hw
    rw [if_neg hw] at h1
    exact ⟨fun _ _ => trivial, h1.2.2⟩
theorem HL.next {fuel : Nat} {listed : Array Bool} (hS : S w) (h : HL n P ops S K N env fuel listed w) : WQ (Nrm fun a' w' => S w' ∧ AH n P ops S K fuel listed a' w') .normal N env w := fun a ha => ⟨rfl, hS, h a ha⟩
theorem HL.keepQ {Q : Exit → Act → World → Prop} (h : WQ Q .normal N env w) : ∀ a, Ag N env a → Q .normal a w := h
/-- cells that nobody writes -/
def FCs (ad : Addr) (cs : List Value) : Fact where
  p M w := ¬ M ad.block ∧ (∃ u, cs[0]? = some u) ∧ ∀ j u, cs[j]? = some u → w.cell? (ad.add j) = some u
  step hs h := by
    obtain ⟨h1, ⟨u, hu⟩, h2⟩ := h
    refine ⟨fun h' => ?_, ⟨u, hu⟩, fun j u hu => hs.cell (h2 j u hu) (by rw [addr_block]; exact h1)⟩
    rcases hs.sub _ h' with h3 | h3
    · exact h1 h3
    · have := World.block_lt_of_cell? _ _ (h2 0 u hu)
      rw [addr_block] at this
      omega
theorem Sta.hoist (hS : Sta w0 M L Fs w) (i : Nat) {A : Option Addr} {c : Nat} {xs : List α} (hi : Fs[i]? = some (FSl R A c xs)) {q : Nat} {x : α} (hx : xs[q]? = some x) :
    ∃ ad cs, A = some ad ∧ q < xs.length ∧ R.K (Mx M L) w x cs ∧ Sta w0 M L (FCs (ad.add (q * R.sz)) cs :: Fs) w := by
  obtain ⟨ad, cs, h1, hm, h2, h3⟩ := Sl.get (hS.sl i hi).2 hx
  refine ⟨ad, cs, h1, (List.getElem?_eq_some_iff.1 hx).1, h2, hS.addF _ ⟨by rw [addr_block]; exact hm, ?_, h3⟩⟩
  cases cs with
  | nil => have := R.len h2; have := R.pos; simp at *; omega
  | cons u r => exact ⟨u, rfl⟩
theorem Sta.fcs (hS : Sta w0 M L Fs w) (i : Nat) {ad : Addr} {cs : List Value} (hi : Fs[i]? = some (FCs ad cs)) : ∀ j u, cs[j]? = some u → w.cell? (ad.add j) = some u := (hS.get i hi).2.2
theorem Sta.fc (hS : Sta w0 M L Fs w) (i : Nat) {ad : Addr} {cs : List Value} (hi : Fs[i]? = some (FCs ad cs)) (j : Nat) {u : Value} (hu : cs[j]? = some u) : w.cell? (ad.add j) = some u := (hS.get i hi).2.2 j u hu
theorem Sta.addFr {r : Res} (hS : Sta w0 M (r :: L) Fs w) (f : Fact) (hf : f.p (Mx (Mx M L) [r]) w) : Sta w0 M (r :: L) (f :: Fs) w := by
  refine hS.addF f (f.step (Stp.less w fun k hk => ?_) hf)
  rcases hk with hk | ⟨s, hs, hk⟩
  · exact .inl (.inl hk)
  · rcases List.mem_cons.1 hs with rfl | hs
    · exact .inr ⟨_, by simp, hk⟩
    · exact .inl (.inr ⟨s, hs, hk⟩)
end
end TK
