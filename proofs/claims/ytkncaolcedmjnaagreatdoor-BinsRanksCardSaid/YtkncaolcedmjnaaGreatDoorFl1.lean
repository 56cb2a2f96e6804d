/- Words for walks over any program of the model: no statement of a law stands here. -/
import Derived.Test.YtkncaolcedmjnaaGreatDoorTk15
open Go
namespace TK
/-! binary64 by its words: a word's place in the order -/
def rung (w : Nat) : Nat := w % 2 ^ 63
def ng (w : Nat) : Bool := w / 2 ^ 63 % 2 == 1
def isNan (w : Nat) : Bool := decide (2047 * 2 ^ 52 < rung w)
/-- sign and rung as one number -/
def sk (w : Nat) : Int := if ng w then -(rung w : Int) else (rung w : Int)
def icmp (x y : Int) : Ordering := if x < y then .lt else if x = y then .eq else .gt
theorem compare_icmp (x y : Int) : compare x y = icmp x y := rfl
theorem compare_nat_icmp (x y : Nat) : compare x y = icmp x y := by
  show compareOfLessAndEq x y = _
  unfold compareOfLessAndEq icmp
  by_cases h : x < y
  · simp [h]
  · by_cases h2 : x = y
    · simp [h, h2]
    · simp [h, h2]; omega
theorem icmp_scale {c : Int} (hc : 0 < c) (x y : Int) : icmp (x * c) (y * c) = icmp x y := by
  unfold icmp
  have h1 : x * c < y * c ↔ x < y := by
    constructor
    · intro h; exact Int.lt_of_mul_lt_mul_right h (Int.le_of_lt hc)
    · intro h; exact Int.mul_lt_mul_of_pos_right h hc
  have h2 : x * c = y * c ↔ x = y := by
    constructor
    · intro h; exact Int.eq_of_mul_eq_mul_right (by omega) h
    · intro h; rw [h]
  simp only [h1, h2]
/-- a mapping that keeps the order keeps how two stand -/
theorem icmp_mono {f : Int → Int} (hf : ∀ x y, x < y → f x < f y) (x y : Int) : icmp (f x) (f y) = icmp x y := by
  unfold icmp
  rcases Int.lt_trichotomy x y with h | h | h
  · simp [h, hf x y h]
  · subst h; simp
  · have := hf y x h
    simp [show ¬ f x < f y by omega, show ¬ f x = f y by omega, show ¬ x < y by omega, show ¬ x = y by omega]

/-- a rung's magnitude, in the least place -/
def mg (r : Nat) : Nat := if r < 2 ^ 52 then r else 2 ^ 52 + r % 2 ^ 52
def ex (r : Nat) : Nat := if r < 2 ^ 52 then 0 else r / 2 ^ 52 - 1
def vl (r : Nat) : Nat := mg r * 2 ^ ex r
theorem vl_succ (r : Nat) : vl r < vl (r + 1) := by
  unfold vl mg ex
  by_cases h1 : r + 1 < 2 ^ 52
  · simp [h1, show r < 2 ^ 52 by omega]
  · by_cases h2 : r < 2 ^ 52
    · obtain rfl : r = 2 ^ 52 - 1 := by omega
      simp
    · simp only [h1, h2, if_false]
      by_cases h3 : r % 2 ^ 52 + 1 < 2 ^ 52
      · have e1 : (r + 1) % 2 ^ 52 = r % 2 ^ 52 + 1 := by omega
        have e2 : (r + 1) / 2 ^ 52 = r / 2 ^ 52 := by omega
        rw [e1, e2]
        exact Nat.mul_lt_mul_of_pos_right (by omega) (Nat.two_pow_pos _)
      · have e0 : r % 2 ^ 52 = 2 ^ 52 - 1 := by omega
        have e1 : (r + 1) % 2 ^ 52 = 0 := by omega
        have e2 : (r + 1) / 2 ^ 52 - 1 = (r / 2 ^ 52 - 1) + 1 := by omega
        have hp : ∀ e : Nat, (2 : Nat) ^ (e + 1) = 2 * 2 ^ e := fun e => by rw [Nat.pow_succ, Nat.mul_comm]
        rw [e0, e1, e2, hp (r / 2 ^ 52 - 1), ← Nat.mul_assoc]
        exact Nat.mul_lt_mul_of_pos_right (by omega) (Nat.two_pow_pos _)
theorem vl_lt {r s : Nat} (h : r < s) : vl r < vl s := by
  induction s with
  | zero => omega
  | succ s ih =>
    by_cases h1 : r = s
    · subst h1; exact vl_succ r
    · exact Nat.lt_trans (ih (by omega)) (vl_succ s)
theorem vl_zero : vl 0 = 0 := by simp [vl, mg]
def sv (x : Int) : Int := if 0 ≤ x then (vl x.toNat : Int) else -(vl (-x).toNat : Int)
theorem sv_mono (x y : Int) (h : x < y) : sv x < sv y := by
  unfold sv
  by_cases hx : 0 ≤ x
  · simp only [hx, show 0 ≤ y by omega, if_true]
    exact_mod_cast vl_lt (by omega)
  · by_cases hy : 0 ≤ y
    · simp only [hx, hy, if_true, if_false]
      have : vl 0 < vl (-x).toNat := vl_lt (by omega)
      rw [vl_zero] at this
      omega
    · simp only [hx, hy, if_false]
      have : vl (-y).toNat < vl (-x).toNat := vl_lt (by omega)
      omega
theorem signed_eq (s : Bool) (m k : Nat) : Ieee.signed s m k = (if s then -(m : Int) else (m : Int)) * 2 ^ k := by
  unfold Ieee.signed
  rw [Nat.shiftLeft_eq]
  cases s <;> simp
  exact Int.neg_mul .. |>.symm
abbrev lp : Int := Ieee.double.leastPlace
theorem read_num {w : Nat} (h : rung w < 2047 * 2 ^ 52) : Ieee.double.read w = .number (ng w) (mg (rung w)) (lp + (ex (rung w) : Nat)) := by
  have hs : Ieee.double.signWeight = 2 ^ 63 := by decide
  have hb : Ieee.double.binade = 2 ^ 52 := by decide
  have hi : Ieee.double.infRung = 2047 * 2 ^ 52 := by decide
  unfold Ieee.Format.read
  simp only [hs, hb, hi]
  change (if rung w < 2 ^ 52 then _ else if rung w < 2047 * 2 ^ 52 then _ else _) = _
  unfold mg ex
  by_cases h1 : rung w < 2 ^ 52
  · simp only [h1, if_true]
    simp [ng, rung, lp]
  · simp only [h1, h, if_true, if_false]
    rfl
theorem read_inf {w : Nat} (h : rung w = 2047 * 2 ^ 52) : Ieee.double.read w = .infinity (ng w) := by
  have hs : Ieee.double.signWeight = 2 ^ 63 := by decide
  have hb : Ieee.double.binade = 2 ^ 52 := by decide
  have hi : Ieee.double.infRung = 2047 * 2 ^ 52 := by decide
  unfold Ieee.Format.read
  simp only [hs, hb, hi]
  change (if rung w < 2 ^ 52 then _ else if rung w < 2047 * 2 ^ 52 then _ else if rung w = 2047 * 2 ^ 52 then _ else _) = _
  rw [if_neg (by omega), if_neg (by omega), if_pos h]
  rfl
theorem read_nan {w : Nat} (h : 2047 * 2 ^ 52 < rung w) : ∃ s t, Ieee.double.read w = .nan s t := by
  have hs : Ieee.double.signWeight = 2 ^ 63 := by decide
  have hb : Ieee.double.binade = 2 ^ 52 := by decide
  have hi : Ieee.double.infRung = 2047 * 2 ^ 52 := by decide
  unfold Ieee.Format.read
  simp only [hs, hb, hi]
  refine ⟨ng w, rung w - 2047 * 2 ^ 52, ?_⟩
  change (if rung w < 2 ^ 52 then _ else if rung w < 2047 * 2 ^ 52 then _ else if rung w = 2047 * 2 ^ 52 then _ else _) = _
  rw [if_neg (by omega), if_neg (by omega), if_neg (by omega)]
  rfl
theorem sv_sk (w : Nat) : sv (sk w) = (if ng w then -(vl (rung w) : Int) else (vl (rung w) : Int)) := by
  unfold sk sv
  cases ng w
  · simp
  · by_cases h : rung w = 0
    · simp [h, vl_zero]
    · simp [show ¬ (0 : Int) ≤ -(rung w : Int) by omega]
      intro h0; exact absurd h0 h
/-- how two words stand -/
theorem flo_eq {a b : Nat} (ha : isNan a = false) (hb : isNan b = false) : flo a b = some (icmp (sk a) (sk b)) := by
  simp only [isNan, decide_eq_false_iff_not, Nat.not_lt] at ha hb
  show (Ieee.double.read a).order (Ieee.double.read b) = _
  have hng : ∀ w, sk w = if ng w then -(rung w : Int) else (rung w : Int) := fun _ => rfl
  rcases Nat.lt_or_ge (rung a) (2047 * 2 ^ 52) with h1 | h1 <;> rcases Nat.lt_or_ge (rung b) (2047 * 2 ^ 52) with h2 | h2
  · rw [read_num h1, read_num h2]
    show some (compare (Ieee.signed _ _ _) (Ieee.signed _ _ _)) = _
    rw [compare_icmp, signed_eq, signed_eq, ← icmp_mono sv_mono (sk a) (sk b), sv_sk, sv_sk]
    generalize hp : ex (rung a) = p
    generalize hq : ex (rung b) = q
    have e1 : (lp + (p : Nat) - min (lp + (p : Nat)) (lp + (q : Nat)) : Int).toNat = p - min p q := by omega
    have e2 : (lp + (q : Nat) - min (lp + (p : Nat)) (lp + (q : Nat)) : Int).toNat = q - min p q := by omega
    rw [e1, e2]
    have hc : (0 : Int) < 2 ^ (min p q) := by exact_mod_cast Nat.two_pow_pos _
    rw [← icmp_scale hc]
    have key : ∀ (s : Bool) (m e k : Nat), k ≤ e → (if s then -(m : Int) else (m : Int)) * 2 ^ (e - k) * 2 ^ k = if s then -((m * 2 ^ e : Nat) : Int) else ((m * 2 ^ e : Nat) : Int) := by
      intro s m e k hk
      have h3 : (2 : Int) ^ (e - k) * 2 ^ k = 2 ^ e := by rw [← Int.pow_add, Nat.sub_add_cancel hk]
      rw [Int.mul_assoc, h3]
      cases s
      · simp
      · simp [Int.neg_mul]
    rw [key _ _ _ _ (Nat.min_le_left _ _), key _ _ _ _ (Nat.min_le_right _ _)]
    simp only [vl, hp, hq]
  · have h2' : rung b = 2047 * 2 ^ 52 := by omega
    rw [read_num h1, read_inf h2']
    show some (if ng b then Ordering.gt else Ordering.lt) = _
    congr 1
    rw [hng a, hng b]
    unfold icmp
    cases ng b <;> cases ng a <;> simp only [Bool.false_eq_true, if_true, if_false] <;> (first | rw [if_pos (by omega)] | (rw [if_neg (by omega), if_neg (by omega)]))
  · have h1' : rung a = 2047 * 2 ^ 52 := by omega
    rw [read_inf h1', read_num h2]
    show some (if ng a then Ordering.lt else Ordering.gt) = _
    congr 1
    rw [hng a, hng b]
    unfold icmp
    cases ng b <;> cases ng a <;> simp only [Bool.false_eq_true, if_true, if_false] <;> (first | rw [if_pos (by omega)] | (rw [if_neg (by omega), if_neg (by omega)]))
  · have h1' : rung a = 2047 * 2 ^ 52 := by omega
    have h2' : rung b = 2047 * 2 ^ 52 := by omega
    rw [read_inf h1', read_inf h2']
    show some (compare (ng b).toNat (ng a).toNat) = _
    congr 1
    rw [compare_nat_icmp, hng a, hng b, h1', h2']
    unfold icmp
    cases ng b <;> cases ng a <;> simp
theorem flo_nan {a b : Nat} (h : isNan a = true ∨ isNan b = true) : flo a b = none := by
  simp only [isNan, decide_eq_true_eq] at h
  show (Ieee.double.read a).order (Ieee.double.read b) = _
  rcases h with h | h
  · obtain ⟨s, t, e⟩ := read_nan h
    rw [e]; cases Ieee.double.read b <;> rfl
  · obtain ⟨s, t, e⟩ := read_nan h
    rw [e]; cases Ieee.double.read a <;> rfl
theorem cmpF_neq (a : Nat) : cmpF .neq a a = isNan a := by
  show (flo a a != some .eq) = _
  cases h : isNan a
  · rw [flo_eq h h]; simp [icmp]
  · rw [flo_nan (.inl h)]; rfl
theorem cmpF_leq {a b : Nat} (ha : isNan a = false) (hb : isNan b = false) : cmpF .leq a b = decide (sk a ≤ sk b) := by
  show (flo a b == some .lt || flo a b == some .eq) = _
  rw [flo_eq ha hb]; unfold icmp
  by_cases h : sk a < sk b
  · simp [h]; omega
  · by_cases h2 : sk a = sk b
    · simp [h2]
    · simp [h, h2]; omega
theorem cmpF_lss {a b : Nat} (ha : isNan a = false) (hb : isNan b = false) : cmpF .lss a b = decide (sk a < sk b) := by
  show (flo a b == some .lt) = _
  rw [flo_eq ha hb]; unfold icmp
  by_cases h : sk a < sk b
  · simp [h]
  · by_cases h2 : sk a = sk b
    · simp [h2]
    · simp [h, h2]
theorem cmpF_eql {a b : Nat} (ha : isNan a = false) (hb : isNan b = false) : cmpF .eql a b = decide (sk a = sk b) := by
  show (flo a b == some .eq) = _
  rw [flo_eq ha hb]; unfold icmp
  by_cases h : sk a < sk b
  · simp [h]; omega
  · by_cases h2 : sk a = sk b
    · simp [h2]
    · simp [h, h2]
end TK
