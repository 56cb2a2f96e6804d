/- What the plain functions of the law answer. -/
import Derived.Test.YtkncaolcedmjnaaGreatDoorFl2
import Derived.Test.YtkncaolcedmjnaaGreatDoorBinsRanksG4
open Go
namespace TK
theorem key_of {v : Nat} (h : v < 2 ^ 64) (hn : isNan v = false) : order_Key v = some (9218868437227405312 + sk v) := by
  have hr : rung v ≤ 2047 * 2 ^ 52 := by simpa [isNan] using hn
  unfold order_Key
  rw [cmpF_neq, hn, if_neg (by decide), shr63]
  by_cases h1 : v / 2 ^ 63 = 0
  · have h2 : ng v = false := by simp [ng, h1]
    have h3 : rung v = v := by unfold rung; omega
    rw [if_pos (by simp [h1]), wrap_u64 (by omega) (by omega)]
    simp [sk, h2, h3]
  · have h0 : v / 2 ^ 63 = 1 := by omega
    have h2 : ng v = true := by simp [ng, h0]
    rw [if_neg (by simp [h0]), andNot63 h, wrap_u64 (by omega) (by omega)]
    simp [sk, h2]
    omega
theorem sk_lo {v : Nat} (hn : isNan v = false) : -9218868437227405312 ≤ sk v ∧ sk v ≤ 9218868437227405312 := by
  have hr : rung v ≤ 2047 * 2 ^ 52 := by simpa [isNan] using hn
  unfold sk
  split <;> omega
/-- the halving: how many lie below -/
theorem below_spec (k : Nat) (l : List Nat) (x : Int) (hl : l.length < 2 ^ 61) (hv : ∀ v ∈ l, v < 2 ^ 64 ∧ isNan v = false) (hs : ∀ (i j : Nat) a b, i < j → l[i]? = some a → l[j]? = some b → sk a < sk b) :
    ∀ (m : Nat) (f t : Nat), f ≤ t → t ≤ l.length → t - f < m → (∀ (j : Nat) a, j < f → l[j]? = some a → 9218868437227405312 + sk a < x) → (∀ (j : Nat) a, t ≤ j → l[j]? = some a → ¬ 9218868437227405312 + sk a < x) →
      ∃ r : Nat, bins_below_float64_uint64__order_Key_l0 k l x m f t = some (r : Int) ∧ r ≤ l.length ∧ ∀ (j : Nat) a, l[j]? = some a → (j < r ↔ 9218868437227405312 + sk a < x) := by
  intro m
  induction m with
  | zero => intro f t _ _ h; omega
  | succ m ih =>
    intro f t hft htl hm hlo hhi
    rw [bins_below_float64_uint64__order_Key_l0]
    by_cases h : f < t
    · rw [if_pos (by simpa using h)]
      have e1 : IntKind.i64.wrap ((f : Int) + (t : Int)) = ((f + t : Nat) : Int) := by rw [wrap_i64 (by omega) (by omega)]; simp
      have e2 : Int.tdiv ((f + t : Nat) : Int) 2 = (((f + t) / 2 : Nat) : Int) := by exact_mod_cast rfl
      have e3 : IntKind.i64.wrap (((f + t) / 2 : Nat) : Int) = (((f + t) / 2 : Nat) : Int) := wrap_i64 (by omega) (by omega)
      rw [e1, e2, e3]
      have hq : (f + t) / 2 < l.length := by omega
      have hx : l[(f + t) / 2]? = some l[(f + t) / 2] := List.getElem?_eq_getElem hq
      obtain ⟨hv1, hv2⟩ := hv _ (List.getElem_mem hq)
      have hrd : rd l (((f + t) / 2 : Nat) : Int) = some l[(f + t) / 2] := by unfold rd; rw [if_pos (by omega), Int.toNat_natCast]; exact hx
      rw [hrd]
      simp only [Option.bind_some, key_of hv1 hv2]
      by_cases hc : 9218868437227405312 + sk l[(f + t) / 2] < x
      · rw [if_pos (by simpa using hc)]
        have e4 : IntKind.i64.wrap ((((f + t) / 2 : Nat) : Int) + 1) = (((f + t) / 2 + 1 : Nat) : Int) := by rw [wrap_i64 (by omega) (by omega)]; simp
        rw [e4]
        refine ih _ _ (by omega) htl (by omega) (fun j a hj ha => ?_) hhi
        by_cases hj2 : j = (f + t) / 2
        · subst hj2
          rw [hx] at ha; cases ha; exact hc
        · have := hs j _ a _ (show j < (f + t) / 2 by omega) ha hx
          omega
      · rw [if_neg (by simpa using hc)]
        refine ih _ _ (by omega) (by omega) (by omega) hlo (fun j a hj ha => ?_)
        by_cases hj2 : j = (f + t) / 2
        · subst hj2
          rw [hx] at ha; cases ha; exact hc
        · have := hs _ j _ a (show (f + t) / 2 < j by omega) hx ha
          omega
    · rw [if_neg (by simpa using h)]
      obtain rfl : f = t := by omega
      refine ⟨f, rfl, htl, fun j a ha => ?_⟩
      constructor
      · intro hj; exact hlo j a hj ha
      · intro hc
        rcases Nat.lt_or_ge j f with h1 | h1
        · exact h1
        · exact absurd hc (hhi j a h1 ha)
theorem cmp_spec {a b : Nat} (ha : a < 2 ^ 64) (hb : b < 2 ^ 64) (na : isNan a = false) (nb : isNan b = false) : ∃ c, order_Compare a b = some c ∧ (0 ≤ c ↔ ¬ sk a < sk b) := by
  unfold order_Compare
  rw [key_of ha na, key_of hb nb]
  simp only [Option.bind_some, cmp_Compare_uint64, cmp_isNaN_uint64]
  by_cases h1 : sk a < sk b
  · exact ⟨-1, by simp [show 9218868437227405312 + sk a < 9218868437227405312 + sk b by omega], by simp [h1]⟩
  · by_cases h2 : sk b < sk a
    · exact ⟨1, by simp [show ¬ 9218868437227405312 + sk a < 9218868437227405312 + sk b by omega, show 9218868437227405312 + sk b < 9218868437227405312 + sk a by omega], by simp [h1]⟩
    · exact ⟨0, by simp [show ¬ 9218868437227405312 + sk a < 9218868437227405312 + sk b by omega, show ¬ 9218868437227405312 + sk b < 9218868437227405312 + sk a by omega], by simp [h1]⟩
theorem rd_nat {α : Type} {l : List α} {i : Nat} {x : α} (h : l[i]? = some x) : rd l (i : Int) = some x := by unfold rd; rw [if_pos (by omega), Int.toNat_natCast]; exact h
theorem right1 (k : Nat) (l : List Nat) (hl : l.length < 2 ^ 61) (hv : ∀ v ∈ l, v < 2 ^ 64) : ∀ (m i : Nat), i ≤ l.length → l.length - i < m → (∀ (j : Nat) a, j < i → l[j]? = some a → isNan a = false) →
    bins_Right_l1 k l m i = some (.ret (.ret false)) ∨ (bins_Right_l1 k l m i = some (.go ()) ∧ ∀ (j : Nat) a, i ≤ j → l[j]? = some a → isNan a = false ∧ ∀ b, 0 < j → l[j - 1]? = some b → sk b < sk a) := by
  intro m
  induction m with
  | zero => intro i _ h; omega
  | succ m ih =>
    intro i hi hm hp
    rw [bins_Right_l1]
    by_cases h : i < l.length
    · rw [if_pos (by simpa using h)]
      have hx : l[i]? = some l[i] := List.getElem?_eq_getElem h
      have hx64 := hv _ (List.getElem_mem h)
      generalize l[i] = x at hx hx64
      rw [rd_nat hx]
      simp only [Option.bind_some, cmpF_neq]
      cases hn : isNan x
      · simp only [Bool.false_eq_true, if_false]
        have e1 : IntKind.i64.wrap ((i : Int) + 1) = ((i + 1 : Nat) : Int) := by rw [wrap_i64 (by omega) (by omega)]; simp
        have next : bins_Right_l1 k l m ((i + 1 : Nat) : Int) = some (.ret (.ret false)) ∨ (bins_Right_l1 k l m ((i + 1 : Nat) : Int) = some (.go ()) ∧ ∀ (j : Nat) a, i + 1 ≤ j → l[j]? = some a → isNan a = false ∧ ∀ b, 0 < j → l[j - 1]? = some b → sk b < sk a) :=
          ih (i + 1) (by omega) (by omega) (fun j a hj ha => by
            by_cases e : j = i
            · subst e; rw [hx] at ha; cases ha; exact hn
            · exact hp j a (by omega) ha)
        have tail : (if decide ((0 : Int) < i) = true then ((rd l (IntKind.i64.wrap ((i : Int) - (1 : Int)))).bind fun p =>
            (order_Compare p x).bind fun c => if decide ((0 : Int) ≤ c) = true then (((some false).map Fl.ret).map Fl.ret) else (bins_Right_l1 k l m (IntKind.i64.wrap ((i : Int) + (1 : Int))))) else (bins_Right_l1 k l m (IntKind.i64.wrap ((i : Int) + (1 : Int))))) = some (.ret (.ret false)) ∨
            ((if decide ((0 : Int) < i) = true then ((rd l (IntKind.i64.wrap ((i : Int) - (1 : Int)))).bind fun p =>
            (order_Compare p x).bind fun c => if decide ((0 : Int) ≤ c) = true then (((some false).map Fl.ret).map Fl.ret) else (bins_Right_l1 k l m (IntKind.i64.wrap ((i : Int) + (1 : Int))))) else (bins_Right_l1 k l m (IntKind.i64.wrap ((i : Int) + (1 : Int))))) = some (.go ()) ∧
              ∀ (j : Nat) a, i ≤ j → l[j]? = some a → isNan a = false ∧ ∀ b, 0 < j → l[j - 1]? = some b → sk b < sk a) := by
          rw [e1]
          by_cases h0 : 0 < i
          · have e2 : IntKind.i64.wrap ((i : Int) - 1) = ((i - 1 : Nat) : Int) := by rw [wrap_i64 (by omega) (by omega)]; omega
            have hq : i - 1 < l.length := by omega
            have hy : l[i - 1]? = some l[i - 1] := List.getElem?_eq_getElem hq
            have hy64 := hv _ (List.getElem_mem hq)
            generalize l[i - 1] = y at hy hy64
            have hny := hp _ y (show i - 1 < i by omega) hy
            obtain ⟨c, hc, hc2⟩ := cmp_spec hy64 hx64 hny hn
            rw [if_pos (by simpa using h0), e2, rd_nat hy]
            simp only [Option.bind_some, hc]
            by_cases hcc : 0 ≤ c
            · left; simp [hcc]
            · have hlt : sk y < sk x := by
                by_cases h9 : sk y < sk x
                · exact h9
                · exact absurd (hc2.2 h9) hcc
              simp only [hcc, decide_false, Bool.false_eq_true, if_false]
              rcases next with h1 | ⟨h1, h2⟩
              · exact .inl h1
              · refine .inr ⟨h1, fun j a hj ha => ?_⟩
                by_cases e : j = i
                · subst e; rw [hx] at ha; cases ha
                  exact ⟨hn, fun b _ hb => by rw [hy] at hb; cases hb; exact hlt⟩
                · exact h2 j a (by omega) ha
          · rw [if_neg (by simpa using h0)]
            rcases next with h1 | ⟨h1, h2⟩
            · exact .inl h1
            · refine .inr ⟨h1, fun j a hj ha => ?_⟩
              by_cases e : j = i
              · subst e; rw [hx] at ha; cases ha
                exact ⟨hn, fun b hj0 _ => absurd hj0 h0⟩
              · exact h2 j a (by omega) ha
        by_cases hz : cmpF .eql x 0 = true
        · rw [if_pos hz]
          simp only [math_Signbit, Option.bind_some]
          split
          · exact .inl rfl
          · exact tail
        · rw [if_neg hz]; exact tail
      · exact .inl rfl
    · rw [if_neg (by simpa using h)]
      exact .inr ⟨rfl, fun j a hj ha => by have := (List.getElem?_eq_some_iff.1 ha).1; omega⟩
theorem right_spec (k : Nat) (l : List Nat) (hl : l.length < 2 ^ 61) (hv : ∀ v ∈ l, v < 2 ^ 64) (hk : l.length + 3 ≤ k) :
    bins_Right k ⟨[l], [[]]⟩ = some false ∨ (bins_Right k ⟨[l], [[]]⟩ = some true ∧ (∀ v ∈ l, isNan v = false) ∧ ∀ (i j : Nat) a b, i < j → l[i]? = some a → l[j]? = some b → sk a < sk b) := by
  obtain ⟨k, rfl⟩ : ∃ q, k = q + 3 := ⟨k - 3, by omega⟩
  have h1 := right1 (k + 3) l hl hv (k + 3) 0 (by omega) (by omega) (fun j a hj => by omega)
  have w1 : IntKind.i64.wrap 1 = 1 := by decide
  have c0 : bins_Right_l2 (k + 3) ⟨[l], [[]]⟩ (k + 3) 0 = some (.go ()) := by
    rw [bins_Right_l2]
    simp [rd, bins_Right_l3, w1, bins_Right_l2]
  simp only [Int.natCast_zero] at h1
  rcases h1 with h1 | ⟨h1, h2⟩
  · left
    have c1 : bins_Right_l0 (k + 3) ⟨[l], [[]]⟩ (k + 3) 0 = some (.ret false) := by
      rw [bins_Right_l0]
      simp [rd, h1]
    unfold bins_Right
    simp [c1]
  · right
    have c1 : bins_Right_l0 (k + 3) ⟨[l], [[]]⟩ (k + 3) 0 = some (.go ()) := by
      rw [bins_Right_l0]
      simp [rd, h1, w1, bins_Right_l0]
    refine ⟨by unfold bins_Right; simp [c1, c0], fun v hv' => ?_, fun i j a b hij ha hb => ?_⟩
    · obtain ⟨j, hj⟩ := List.getElem?_of_mem hv'
      exact (h2 j v (by omega) hj).1
    · obtain ⟨d, rfl⟩ : ∃ d, j = i + 1 + d := ⟨j - i - 1, by omega⟩
      clear hij
      induction d generalizing b with
      | zero => exact (h2 (i + 1) b (by omega) hb).2 a (by omega) (by simpa using ha)
      | succ d ih =>
        have hq : i + 1 + d < l.length := by have := (List.getElem?_eq_some_iff.1 hb).1; omega
        obtain ⟨c, hc⟩ : ∃ c, l[i + 1 + d]? = some c := ⟨_, List.getElem?_eq_getElem hq⟩
        have h3 := ih _ hc
        have h4 := (h2 (i + 1 + d + 1) b (by omega) hb).2 c (by omega) hc
        omega
theorem code_spec (k : Nat) (l : List Nat) (x : Nat) (hl : l.length < 2 ^ 61) (hv : ∀ v ∈ l, v < 2 ^ 64) (hn : ∀ v ∈ l, isNan v = false) (hs : ∀ (i j : Nat) a b, i < j → l[i]? = some a → l[j]? = some b → sk a < sk b)
    (hk : l.length + 3 ≤ k) (hx : x < 2 ^ 64) : ∃ c : Code, bins_code k ⟨[l], [[]]⟩ 0 x = some c ∧ c.lost = isNan x ∧ (isNan x = false → ∃ r : Nat, c.bin = r ∧ r ≤ l.length ∧ ∀ (j : Nat) a, l[j]? = some a → (j < r ↔ sk a < sk x)) := by
  unfold bins_code
  rw [cmpF_neq]
  cases hnx : isNan x
  · obtain ⟨k, rfl⟩ : ∃ q, k = q + 3 := ⟨k - 3, by omega⟩
    obtain ⟨r, hr, hrl, hr2⟩ := below_spec (k + 3) l (9218868437227405312 + sk x) hl (fun v h => ⟨hv v h, hn v h⟩) hs (k + 3) 0 l.length (Nat.zero_le _) (Nat.le_refl _) (by omega) (fun j a hj => by omega) (fun j a hj ha => by
      have := (List.getElem?_eq_some_iff.1 ha).1; omega)
    simp only [Int.natCast_zero] at hr
    have hb : bins_below_float64_uint64__order_Key (k + 3) l (9218868437227405312 + sk x) = some (r : Int) := by
      unfold bins_below_float64_uint64__order_Key
      rw [hr]; rfl
    have hb0 : bins_below_int_float64__bins_code_1 (k + 3) [] x = some 0 := by
      unfold bins_below_int_float64__bins_code_1
      rw [bins_below_int_float64__bins_code_1_l0]
      simp
    refine ⟨⟨r, -1, false⟩, ?_, rfl, fun _ => ⟨r, rfl, hrl, fun j a ha => ?_⟩⟩
    · simp [rd, key_of hx hnx, hb, hb0]
    · rw [hr2 j a ha]; omega
  · exact ⟨⟨0, -1, true⟩, by simp, rfl, fun h => by cases h⟩
theorem codes_spec (k : Nat) (l : List Nat) (x : Nat) (hR : bins_Right k ⟨[l], [[]]⟩ = some true) (hk : 3 ≤ k) {c : Code} (hc : bins_code k ⟨[l], [[]]⟩ 0 x = some c) : bins_Codes k ⟨[l], [[]]⟩ [x] = some ([c], 0) := by
  obtain ⟨k, rfl⟩ : ∃ q, k = q + 3 := ⟨k - 3, by omega⟩
  have w1 : IntKind.i64.wrap 1 = 1 := by decide
  unfold bins_Codes
  rw [hR]
  simp [bins_Codes_l0, rd, hc, w1]
theorem ranks_loop (k : Nat) (l : List Nat) (c : Code) (x : Nat) (hl : l.length < 2 ^ 61) (hn : ∀ v ∈ l, isNan v = false) (hx : isNan x = false) (r : Nat) (hb : c.bin = r) (hr : ∀ (j : Nat) a, l[j]? = some a → (j < r ↔ sk a < sk x)) :
    ∀ (m i : Nat), i ≤ l.length → l.length - i < m → thicketlaw20_BinsRanks_l0 k l [c] x m i = some (.go ()) := by
  intro m
  induction m with
  | zero => intro i _ h; omega
  | succ m ih =>
    intro i hi hm
    rw [thicketlaw20_BinsRanks_l0]
    by_cases h : i < l.length
    · rw [if_pos (by simpa using h)]
      have hy : l[i]? = some l[i] := List.getElem?_eq_getElem h
      have hny := hn _ (List.getElem_mem h)
      generalize l[i] = y at hy hny
      have e1 : IntKind.i64.wrap ((i : Int) + 1) = ((i + 1 : Nat) : Int) := by rw [wrap_i64 (by omega) (by omega)]; simp
      have h3 := hr i y hy
      rw [rd_nat hy, e1]
      simp only [Option.bind_some, cmpF_leq hx hny]
      have hd : decide (sk x ≤ sk y) = decide (c.bin ≤ (i : Int)) := by
        rw [hb]
        apply decide_eq_decide.2
        omega
      simp [rd, hd]
      exact ih (i + 1) (by omega) (by omega)
    · rw [if_neg (by simpa using h)]
/-- WHAT THE LAW ANSWERS, IN PLAIN LEAN -/
theorem ranks_true (l : List Nat) (x y : Nat) (hl : l.length < 2 ^ 61) (hv : ∀ v ∈ l, v < 2 ^ 64) (hx : x < 2 ^ 64) (hy : y < 2 ^ 64) : ∃ k, thicketlaw20_BinsRanks k l x y = some true := by
  refine ⟨l.length + 3, ?_⟩
  have b0 : thicketlaw20_begins 9 = some true := by kernel_rfl
  unfold thicketlaw20_BinsRanks
  rw [b0]
  simp only [Option.bind_some, Bool.not_true, Bool.false_eq_true, if_false]
  rcases right_spec (l.length + 3) l hl hv (Nat.le_refl _) with hR | ⟨hR, hn, hs⟩
  · have hc : bins_Codes (l.length + 3) ⟨[l], [[]]⟩ [x] = some ([], 200) := by unfold bins_Codes; rw [hR]; rfl
    simp [hR, hc]
  · obtain ⟨c, hc, hc1, hc2⟩ := code_spec (l.length + 3) l x hl hv hn hs (Nat.le_refl _) hx
    obtain ⟨d, hd, hd1, hd2⟩ := code_spec (l.length + 3) l y hl hv hn hs (Nat.le_refl _) hy
    rw [hR]
    simp only [Option.bind_some, Bool.not_true, Bool.false_eq_true, if_false]
    rw [codes_spec _ l x hR (by omega) hc, codes_spec _ l y hR (by omega) hd]
    simp only [Option.bind_some, cmpF_neq]
    cases hnx : isNan x
    · cases hny : isNan y
      · obtain ⟨r, hr, hrl, hr2⟩ := hc2 hnx
        obtain ⟨s, hs1, hsl, hs2⟩ := hd2 hny
        have hloop := ranks_loop (l.length + 3) l c x hl hn hnx r hr hr2 (l.length + 3) 0 (Nat.zero_le _) (by omega)
        simp only [Int.natCast_zero] at hloop
        simp [rd, hloop, cmpF_leq hnx hny, hr, hs1]
        intro hxy
        by_cases h : r ≤ s
        · exact h
        · have hq : s < l.length := by omega
          have ha : l[s]? = some l[s] := List.getElem?_eq_getElem hq
          have h1 := (hr2 s _ ha).1 (by omega)
          have h2 := (hs2 s _ ha).2 (by omega)
          omega
      · simp [rd, hc1, hd1, hnx, hny]
    · simp [rd, hc1, hd1, hnx]
end TK
