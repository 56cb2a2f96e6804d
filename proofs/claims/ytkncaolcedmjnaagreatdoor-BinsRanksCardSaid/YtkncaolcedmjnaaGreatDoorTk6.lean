/- Words for walks over any program of the model: no statement of a law stands here. -/
import Derived.Test.YtkncaolcedmjnaaGreatDoorTk5
import Derived.Shelf.Abstract
import Derived.Deep.OwnRows
open Go Go.RowKit
namespace TK
section
variable {ro : Option Nat} {n : Nat} {P : Program} {Q : Exit → Act → World → Prop} {N : Nat} {env : Env} {w0 w w' : World} {ops : Array Oper} {ty : TypeId} {pos : String} {aft : Array Edge} {rest : List Oper}
variable {M : MSet} {L : List Res} {Fs : List Fact} {α : Type} {R : Rep α} {e : TypeId}

/-! rows -/
theorem Sta.nilRow (hS : Sta w0 M L Fs w) (R : Rep α) (e : TypeId) : Sta w0 M (Row R e (.slice none 0 0) [] :: L) Fs w := by
  refine hS.more (Below.refl _ _) _ (fun k hk => by simp [Row, Value.ownBlock] at hk) ?_
  exact ⟨[], World.ownsRow_nil _ _ _ _, rfl⟩
theorem Sta.setRes (hS : Sta w0 M L Fs w) (i : Nat) {r : Res} (hi : L[i]? = some r) (r' : Res) (hid : r'.id = r.id) (hr : ∀ M', r.ok w0.heap.size M' w → r'.ok w0.heap.size M' w) : Sta w0 M (L.set i r') Fs w := by
  refine hS.put i hi r' ⟨Nat.le_refl _, fun _ _ _ => rfl, fun k hk => .inl hk⟩ rfl rfl rfl (fun k hk => .inl (by rw [← hid]; exact hk)) fun M' hM => ?_
  exact hr _ (r.step ⟨Nat.le_refl _, fun _ _ _ => rfl, hM⟩ (fun _ _ => rfl) (hS.res i hi))
/-- a literal that is the call's own is a row -/
theorem Sta.litRow (hS : Sta w0 M L Fs w) (i : Nat) {b : Nat} {cs : List Value} (hi : L[i]? = some (Blk b cs e)) (ys : List α) (m : Nat) (hm : ys.length = m) (hmax : m ≤ 1000)
    (hE : ∀ M', Stp (Mx M L) M' w w → Elems R M' w ys cs) : Sta w0 M (L.set i (Row R e (.slice (some ⟨b, 0, none⟩) m m) ys)) Fs w := by
  refine hS.put i hi _ ⟨Nat.le_refl _, fun _ _ _ => rfl, fun k hk => .inl hk⟩ rfl rfl rfl (fun k hk => .inl (by simpa [Row, Value.ownBlock, Blk] using hk)) fun M' hM => ?_
  have hok := hS.res i hi
  have hE' := hE M' ⟨Nat.le_refl _, fun _ _ _ => rfl, hM⟩
  have hl := hE'.length
  subst hm
  refine ⟨cs, ⟨hl, .inr ⟨b, ys.length, cs.toArray, rfl, hok.1, hok.2, Nat.le_refl _, by simp only [maxLen]; omega, by simpa using hl, by simp [← hl]⟩⟩, hE'⟩
theorem Row.get {B : Nat} {M : MSet} {w : World} {A : Option Addr} {m c : Nat} {ys : List α} (h : (Row R e (.slice A m c) ys).ok B M w) {i : Nat} {y : α} (hy : ys[i]? = some y) :
    ∃ ad cs, A = some ad ∧ R.K M w y cs ∧ ∀ j u, cs[j]? = some u → w.cell? ((ad.add (i * R.sz)).add j) = some u := by
  obtain ⟨xs, ho, hE⟩ := h
  obtain ⟨cs, hK, hc⟩ := hE.get hy
  rcases ho.2 with ⟨hv, h0⟩ | ⟨g, cap, cur, hv, hb, hh, _⟩
  · have := (List.getElem?_eq_some_iff.1 hy).1; omega
  · simp only [Value.slice.injEq] at hv
    obtain ⟨rfl, rfl, rfl⟩ := hv
    exact ⟨_, cs, rfl, hK, fun j u hu => by rw [addr_add]; exact ho.cells (g := g) rfl _ _ (hc j u hu)⟩
/-- from now on it is only read -/
theorem Sta.freeze (hS : Sta w0 M L Fs w) (i : Nat) {A : Option Addr} {m c : Nat} {ys : List α} (hi : L[i]? = some (Row R e (.slice A m c) ys)) :
    Sta w0 M (L.eraseIdx i) (FSl R A c ys :: Fs) w := by
  have hok := hS.res i hi
  have hil : i < L.length := (List.getElem?_eq_some_iff.1 hi).1
  have hsub : ∀ k, Mx M (L.eraseIdx i) k → Mx M L k := by
    intro k hk
    rcases hk with hk | ⟨r, hr, hk⟩
    · exact .inl hk
    · exact .inr ⟨r, List.mem_of_mem_eraseIdx hr, hk⟩
  have hs : Stp (Mx M L) (Mx M (L.eraseIdx i)) w w := Stp.less w hsub
  refine ⟨hS.bel, hS.mlt, fun r hr => r.step hs (fun _ _ => rfl) (hS.own r (List.mem_of_mem_eraseIdx hr)), hS.dis.sublist (List.eraseIdx_sublist L i), fun f hf => ?_⟩
  rcases List.mem_cons.1 hf with rfl | hf
  · obtain ⟨A2, c2, hv2, hmc⟩ := Row.slice hok
    simp only [Value.slice.injEq] at hv2
    obtain ⟨rfl, rfl, rfl⟩ := hv2
    show ys.length ≤ c ∧ Sl R (Mx M (L.eraseIdx i)) w A ys
    refine ⟨hmc, ?_⟩
    by_cases hn : ys = []
    · exact .inl hn
    · obtain ⟨y, hy⟩ : ∃ y, ys[0]? = some y := by cases ys with | nil => exact absurd rfl hn | cons x r => exact ⟨x, rfl⟩
      obtain ⟨ad, _, hA, _, _⟩ := Row.get hok hy
      refine .inr ⟨ad, hA, fun hk => ?_, fun j x hx => ?_⟩
      · rcases hk with hk | ⟨r, hr, hk⟩
        · have h1 := hS.mlt _ hk
          have h2 := ((Row R e (.slice A ys.length c) ys).lt hok ad.block (by rw [hA]; rfl)).1
          omega
        · obtain ⟨j, hj⟩ := List.getElem?_of_mem hr
          rw [List.getElem?_eraseIdx] at hj
          have hd := hS.dis
          rw [List.pairwise_iff_getElem] at hd
          have hid : (Row R e (.slice A ys.length c) ys).id = some ad.block := by rw [hA]; rfl
          obtain ⟨h1, e1⟩ := List.getElem?_eq_some_iff.1 hi
          split at hj
          · obtain ⟨h2, e2⟩ := List.getElem?_eq_some_iff.1 hj
            have := hd j i h2 h1 (by assumption) ad.block; rw [e1, e2] at this; exact this hk hid
          · obtain ⟨h2, e2⟩ := List.getElem?_eq_some_iff.1 hj
            have := hd i (j + 1) h1 h2 (by omega) ad.block; rw [e1, e2] at this; exact this hid hk
      · obtain ⟨ad', cs, hA', hK, hc⟩ := Row.get hok hx
        rw [hA] at hA'
        cases hA'
        exact ⟨cs, R.step hs hK, fun k u hu => by have := hc k u hu; rwa [addr_add] at this⟩
  · exact f.step hs (hS.fac f hf)

/-- a row that a call made -/
theorem Sta.ofRow {v : Value} {ys : List α} (hS : Sta w0 M L Fs w) (hb : Below w.heap.size w w') (hr : (Row R e v ys).ok w.heap.size (Mx (Mx M L) [Row R e v ys]) w') : Sta w0 M (Row R e v ys :: L) Fs w' := by
  obtain ⟨xs, ho, hE⟩ := hr
  refine hS.more hb _ (fun k hk => ho.lt k hk) ?_
  refine ⟨xs, ⟨ho.1, ?_⟩, ?_⟩
  · rcases ho.2 with h | ⟨g, cap, cur, h1, h2, h3⟩
    · exact .inl h
    · exact .inr ⟨g, cap, cur, h1, Nat.le_trans hS.bel.size h2, h3⟩
  · refine hE.step (Stp.less w' fun k hk => ?_)
    rcases hk with hk | ⟨r, hr, hk⟩
    · exact .inl (.inl hk)
    · rcases List.mem_cons.1 hr with rfl | hr
      · exact .inr ⟨_, by simp, hk⟩
      · exact .inl (.inr ⟨r, hr, hk⟩)
theorem run_append_zero {t e : TypeId} {i : TypeInfo} (ht : P.underlying t = some (.slice e)) (hi : P.info? e = some i) (A B : Option Addr) (m c k : Nat) (hm : m ≤ c) (w : World) :
    (Builtin.append_ #[t, t] ty #[.slice A m c, .slice B 0 k]).run P w = .ok (.slice A m c) w := by
  cases A <;> cases B <;> simp [Builtin.append_, run_underlying ht, Go.sizeOf, typeInfo, hi, Builtin.lenOf, Builtin.firstCells, loadCells, loadCellsFrom, hm, storeCells]

/-- what is appended: from memory -/
def Src (R : Rep α) (M : MSet) (w : World) (B : Option Addr) (zs : List α) : Prop :=
  zs = [] ∨ ∃ ad xs, B = some ad ∧ Elems R M w zs xs ∧ ∀ j u, xs[j]? = some u → w.cell? (ad.add j) = some u
theorem Elems.of_get (R : Rep α) (M : MSet) (w : World) (ad : Addr) : ∀ (zs : List α) (o : Nat), (∀ i x, zs[i]? = some x → ∃ cs, R.K M w x cs ∧ ∀ j u, cs[j]? = some u → w.cell? (ad.add (o + (i * R.sz + j))) = some u) →
    ∃ xs, Elems R M w zs xs ∧ ∀ j u, xs[j]? = some u → w.cell? (ad.add (o + j)) = some u
  | [], o, _ => ⟨[], rfl, by simp⟩
  | z :: zs, o, h => by
    obtain ⟨cs, hK, hc⟩ := h 0 z rfl
    obtain ⟨xs, hE, hx⟩ := Elems.of_get R M w ad zs (o + R.sz) fun i x hx => by
      obtain ⟨cs, hK, hc⟩ := h (i + 1) x (by simpa using hx)
      exact ⟨cs, hK, fun j u hu => by have := hc j u hu; rwa [Nat.succ_mul, show o + (i * R.sz + R.sz + j) = o + R.sz + (i * R.sz + j) by omega] at this⟩
    refine ⟨cs ++ xs, ⟨cs, xs, rfl, hK, hE⟩, fun j u hu => ?_⟩
    rw [List.getElem?_append] at hu
    split at hu
    · have := hc j u hu; simpa using this
    · rename_i hl
      rw [R.len hK] at hl hu
      have := hx _ u hu
      rwa [show o + R.sz + (j - R.sz) = o + j by omega] at this
theorem Sl.src {M : MSet} {w : World} {A : Option Addr} {xs : List α} (h : Sl R M w A xs) : Src R M w A xs := by
  rcases h with h | ⟨ad, hA, _, h⟩
  · exact .inl h
  · obtain ⟨us, hE, hu⟩ := Elems.of_get R M w ad xs 0 (by simpa using h)
    exact .inr ⟨ad, us, hA, hE, by simpa using hu⟩
theorem Row.src {B : Nat} {M : MSet} {w : World} {A : Option Addr} {m c : Nat} {ys : List α} (h : (Row R e (.slice A m c) ys).ok B M w) : Src R M w A ys := by
  obtain ⟨xs, ho, hE⟩ := h
  rcases ho.2 with ⟨hv, h0⟩ | ⟨g, cap, cur, hv, hb, hh, _⟩
  · exact .inl (List.eq_nil_of_length_eq_zero h0)
  · simp only [Value.slice.injEq] at hv
    obtain ⟨rfl, rfl, rfl⟩ := hv
    exact .inr ⟨_, xs, rfl, hE, fun j u hu => ho.cells (g := g) rfl j u hu⟩
theorem Blk.src {B : Nat} {M : MSet} {w : World} {b : Nat} {cs : List Value} {T : TypeId} (h : (Blk b cs T).ok B M w) {zs : List α} (hE : Elems R M w zs cs) : Src R M w (some ⟨b, 0, none⟩) zs :=
  .inr ⟨_, cs, rfl, hE, fun j u hu => by rw [add_plain, Nat.zero_add]; exact Blk.cell h hu⟩

theorem WL.append (i : Nat) {d : Nat} {t : TypeId} {s x : Operand} {A B : Option Addr} {m c k kc sz by_ : Nat} {z : Value} {ys zs : List α} (ht : P.underlying t = some (.slice e)) (he : zinfo P e = some (z, sz, by_)) (hzz : z.cells.size = sz)
    (hsz : R.sz = sz) (hpos : Nat.blt 0 sz = true) (hS : Sta w0 M L Fs w) (hi : L[i]? = some (Row R e (.slice A m c) ys)) (hx : ev env s = some (.slice A m c)) (hy : ev env x = some (.slice B k kc)) (hk : zs.length = k) (hsrc : Src R (Mx M L) w B zs)
    (hb : (ys.length + zs.length) * by_ ≤ 140737488355328) (hby : Nat.blt 0 by_ = true) (hd : Nat.ble (d + 1) N = true)
    (h : ∀ A' c' w', Sta w0 M (L.set i (Row R e (.slice A' (ys ++ zs).length c') (ys ++ zs))) Fs w' → WL ro n P ops Q N ((d, .slice A' (ys ++ zs).length c') :: env) rest w') :
    WL ro n P ops Q N env (⟨some d, .call { callee := .builtin .append, args := #[s, x], argTypes := #[t, t] }, ty, pos, aft, none⟩ :: rest) w := by
  subst hk
  have hok := hS.res i hi
  obtain ⟨inf, hinf, hz, hs, hbb⟩ := zinfo_parts he
  obtain ⟨A2, c2, hv, hmc⟩ := Row.slice hok
  simp only [Value.slice.injEq] at hv
  obtain ⟨rfl, rfl, rfl⟩ := hv
  have hby' : 0 < by_ := by simpa [Nat.blt_eq] using hby
  have hpos' : 0 < sz := by simpa [Nat.blt_eq] using hpos
  have harg : ∀ a, Ag N env a → ∀ (r : Result Value) (v1 : Value) (w1 : World), (Builtin.append_ #[t, t] ty #[.slice A ys.length c, .slice B zs.length kc]).run P w = .ok v1 w1 →
      ∀ d pos aft g, (execOp a.eval ⟨d, .call { callee := .builtin .append, args := #[s, x], argTypes := #[t, t] }, ty, pos, aft, g⟩).run P w = .ok (.value v1) w1 := by
    intro a ha r v1 w1 hr d pos aft g
    simp [execOp, resolve, invoke, builtin, ha.ev hx, ha.ev hy, hr]
  rcases hsrc with rfl | ⟨ad, xs, rfl, hE, hc⟩
  · have hr := run_append_zero (P := P) (ty := ty) ht hinf A B ys.length c kc hmc w
    have hset : L.set i (Row R e (.slice A (ys ++ []).length c) (ys ++ [])) = L := by
      simp only [List.append_nil]
      apply List.ext_getElem?
      intro j
      rw [List.getElem?_set]
      by_cases e1 : i = j
      · subst e1; rw [if_pos rfl, if_pos (List.getElem?_eq_some_iff.1 hi).1, hi]
      · rw [if_neg e1]
    have h' := h A c w (by rw [hset]; exact hS)
    exact WL.val (fun a d pos aft g ha => harg a ha (.ok undef w) _ _ hr d pos aft g) hd rfl (by simpa using h')
  · obtain ⟨us, ho, hEu⟩ := hok
    have hbase : w0.heap.size ≤ w.heap.size := hS.bel.size
    have hlen : ys.length + zs.length ≤ maxLen := by
      have : ys.length + zs.length ≤ (ys.length + zs.length) * by_ := Nat.le_mul_of_pos_right _ hby'
      simp only [maxLen]; omega
    obtain ⟨v', w1, hr, ho', hg, _, hat⟩ := run_append_own_at (P := P) w w0.heap.size t ty e inf z sz by_ ht hinf hz hs hbb hzz hpos' (.slice A ys.length c) ys.length us (by rw [← hsz]; exact ho) ad zs.length kc xs (by rw [hE.length, hsz]) hc hE.one hlen hb hbase
    have hform : ∃ A' c', v' = .slice A' (ys ++ zs).length c' := by
      rw [List.length_append]
      rcases ho'.2 with ⟨h1, h2⟩ | ⟨g, cap, cur, h1, _⟩
      · exact ⟨none, 0, by rw [h1, h2]⟩
      · exact ⟨_, cap, h1⟩
    obtain ⟨A', c', rfl⟩ := hform
    refine WL.val (fun a d pos aft g ha => harg a ha (.ok undef w) _ _ hr d pos aft g) hd rfl (h A' c' w1 ?_)
    refine hS.put i hi _ ⟨hg.size, fun k hk hn => hg.block k hk (fun e => hn e.symm), fun k hk => .inl hk⟩ hg.os hg.tape hg.output (fun k hk => ?_) fun M' hM => ?_
    · rcases hat with hat | hat
      · left
        show Value.ownBlock (.slice A ys.length c) = some k
        rw [← hat]; exact hk
      · right
        have hk' : some w.heap.size = some k := hat ▸ hk
        cases hk'
        exact ⟨Nat.le_refl _, (ho'.lt _ hk).2⟩
    · refine ⟨us ++ xs, by rw [hsz]; simpa only [List.length_append] using ho', ?_⟩
      have hst : Stp (Mx M L) M' w w1 := ⟨hg.size, fun k hk hn => hg.block k hk (fun e => hn (.inr ⟨_, List.mem_of_getElem? hi, e.symm⟩)), hM⟩
      exact (hEu.step hst).append (hE.step hst)

theorem Elems.replicate {M : MSet} {w : World} {z0 : α} {z : Value} (hK : R.K M w z0 [z]) : ∀ q, Elems R M w (List.replicate q z0) (List.replicate q z)
  | 0 => rfl
  | q + 1 => ⟨[z], List.replicate q z, rfl, hK, Elems.replicate hK q⟩
/-- make of plain elements -/
theorem WL.make {d : Nat} {t : TypeId} {x : Operand} {k : IntKind} {m : Int} {z : Value} {by_ : Nat} (z0 : α) (ht : P.underlying t = some (.slice e)) (he : zinfo P e = some (z, 1, by_)) (hz1 : z.cells = #[z])
    (hsz : R.sz = 1) (hK : ∀ M w, R.K M w z0 [z]) (hS : Sta w0 M L Fs w) (hx : ev env x = some (.int k m)) (h0 : 0 ≤ m) (hb : m.toNat * by_ ≤ 281474976710656) (hby : Nat.blt 0 by_ = true) (hd : Nat.ble (d + 1) N = true)
    (h : ∀ b w', Sta w0 M (Row R e (.slice (some ⟨b, 0, none⟩) m.toNat m.toNat) (List.replicate m.toNat z0) :: L) Fs w' → WL ro n P ops Q N ((d, .slice (some ⟨b, 0, none⟩) m.toNat m.toNat) :: env) rest w') :
    WL ro n P ops Q N env (⟨some d, .makeSlice t x x, ty, pos, aft, none⟩ :: rest) w := by
  obtain ⟨inf, hinf, hz, hs, hbb⟩ := zinfo_parts he
  have hby' : 0 < by_ := by simpa [Nat.blt_eq] using hby
  obtain ⟨q, rfl⟩ := Int.eq_ofNat_of_zero_le h0
  simp only [Int.toNat_natCast] at *
  have hq : q ≤ 281474976710656 := Nat.le_trans (Nat.le_mul_of_pos_right _ hby') hb
  have hr := run_make_row (P := P) t e inf z ht hinf hz hs hz1 k k q (by rw [hbb, Nat.mul_comm]; exact hb) (by omega) w
  refine WL.val (fun a d pos aft g ha => ?_) hd rfl (h w.heap.size (w.alloc (.cells (madeCells #[z] q) e)) ?_)
  · simp [execOp, ha.ev hx, hr]
  · refine hS.more ((Below.refl _ w).alloc (Nat.le_refl _) _) _ (fun k hk => ?_) ?_
    · cases hk; exact ⟨Nat.le_refl _, by simp⟩
    · have hsize : (madeCells #[z] q).size = q := by simp [madeCells]
      have hel : (madeCells #[z] q).toList = List.replicate q z := by
        apply List.ext_getElem?
        intro j
        by_cases hj : j < q
        · simp [madeCells, List.getElem?_replicate, hj, Nat.mod_one]
        · simp [madeCells, List.getElem?_replicate, hj]
      refine ⟨List.replicate q z, ⟨by simp [hsz], .inr ⟨w.heap.size, q, _, by simp, hS.bel.size, heap_alloc_new w _, by simp, by simp only [maxLen]; omega, by rw [hsize, hsz, Nat.mul_one], ?_⟩⟩, ?_⟩
      · rw [hel, hsz]; simp
      · exact Elems.replicate (hK _ _) q
end
end TK
