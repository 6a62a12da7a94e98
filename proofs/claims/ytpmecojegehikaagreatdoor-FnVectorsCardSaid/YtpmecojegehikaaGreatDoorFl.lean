/- The float theory: what the model's words of IEEE 754 stand for, in rational numbers; rounding stays between the numbers of the format. -/
import Ieee.Arith
import Derived.Laws.FloatBits
namespace Go.Proofs.YtpmecojegehikaaGreatDoor.Fl
open Ieee

/-- two to the power of an integer -/
def p2 (e : Int) : Rat := (2 : Rat) ^ e

theorem p2_pos (e : Int) : 0 < p2 e := Rat.zpow_pos (by decide)
theorem p2_ne (e : Int) : p2 e ≠ 0 := Rat.ne_of_gt (p2_pos e)
theorem p2_add (a b : Int) : p2 (a + b) = p2 a * p2 b := Rat.zpow_add (by decide) a b
theorem p2_zero : p2 0 = 1 := Rat.zpow_zero 2
theorem p2_one : p2 1 = 2 := Rat.zpow_one 2
theorem p2_nat (n : Nat) : p2 (n : Int) = ((2 ^ n : Nat) : Rat) := by
  unfold p2; rw [Rat.zpow_natCast, Rat.natCast_pow]; rfl
theorem p2_of_nonneg {e : Int} (h : 0 ≤ e) : p2 e = ((2 ^ e.toNat : Nat) : Rat) := by
  rw [← p2_nat, Int.toNat_of_nonneg h]
theorem p2_one_le {e : Int} (h : 0 ≤ e) : 1 ≤ p2 e := by
  rw [p2_of_nonneg h]
  have : (1 : Nat) ≤ 2 ^ e.toNat := Nat.one_le_two_pow
  exact_mod_cast Rat.natCast_le_natCast.2 this
theorem p2_le {a b : Int} (h : a ≤ b) : p2 a ≤ p2 b := by
  have e : b = a + (b - a) := by omega
  rw [e, p2_add]
  have h1 := p2_one_le (e := b - a) (by omega)
  have h0 := p2_pos a
  have := Rat.mul_le_mul_of_nonneg_left h1 (Rat.le_of_lt h0)
  rwa [Rat.mul_one] at this
theorem p2_lt {a b : Int} (h : a < b) : p2 a < p2 b := by
  have h1 : p2 (a + 1) ≤ p2 b := p2_le (by omega)
  rw [p2_add, p2_one] at h1
  have h0 := p2_pos a
  grind
theorem p2_mul_neg (e : Int) : p2 e * p2 (-e) = 1 := by
  rw [← p2_add]; rw [show e + -e = 0 by omega]; exact p2_zero
theorem p2_le_iff {a b : Int} : p2 a ≤ p2 b ↔ a ≤ b := by
  constructor
  · intro h
    by_cases h1 : b < a
    · have := p2_lt h1; grind
    · omega
  · exact p2_le

/-! ### rounding a natural number at a digit -/
theorem cut_spec (neg : Bool) (n drop : Nat) :
    2 * (Toward.even.cut neg n drop) * 2 ^ drop ≤ 2 * n + 2 ^ drop ∧ 2 * n ≤ 2 * (Toward.even.cut neg n drop) * 2 ^ drop + 2 ^ drop := by
  unfold Toward.cut
  simp only [Nat.shiftLeft_eq, Nat.one_mul]
  by_cases hd : drop ≤ n.log2 + 2
  · rw [Nat.min_eq_left hd]
    generalize hg : 2 ^ drop = g
    have hg0 : 0 < g := by rw [← hg]; exact Nat.two_pow_pos _
    have hdiv := Nat.div_add_mod n g
    have hmod := Nat.mod_lt n hg0
    generalize hq : n / g = q at *
    generalize hr : n % g = r at *
    by_cases h1 : g < 2 * r
    · simp only [h1, decide_true, Bool.true_or, Bool.toNat_true]
      have : 2 * (q + 1) * g = 2 * (g * q) + 2 * g := by rw [Nat.mul_comm g q]; grind
      omega
    · by_cases h2 : g = 2 * r
      · by_cases h3 : q % 2 = 1
        · simp only [h3, ← h2, beq_self_eq_true, Bool.and_true, Bool.or_true, Bool.toNat_true]
          have : 2 * (q + 1) * g = 2 * (g * q) + 2 * g := by rw [Nat.mul_comm g q]; grind
          omega
        · have h3' : (q % 2 == 1) = false := by simpa using h3
          simp only [h1, h3', decide_false, Bool.and_false, Bool.or_false, Bool.toNat_false, Nat.add_zero]
          have : 2 * q * g = 2 * (g * q) := by rw [Nat.mul_comm g q, Nat.mul_assoc]
          omega
      · have h2' : (g == 2 * r) = false := by simpa using h2
        simp only [h1, h2', decide_false, Bool.false_and, Bool.or_false, Bool.toNat_false, Nat.add_zero]
        have : 2 * q * g = 2 * (g * q) := by rw [Nat.mul_comm g q, Nat.mul_assoc]
        omega
  · rw [Nat.min_eq_right (by omega)]
    have hn : n < 2 ^ (n.log2 + 1) := Nat.lt_log2_self
    have e2 : 2 ^ (n.log2 + 2) = 2 * 2 ^ (n.log2 + 1) := by rw [Nat.pow_succ, Nat.mul_comm]
    have hlt : 2 * n < 2 ^ (n.log2 + 2) := by omega
    have hle : 2 ^ (n.log2 + 2) ≤ 2 ^ drop := Nat.pow_le_pow_right (by decide) (by omega)
    have hq : n / 2 ^ (n.log2 + 2) = 0 := Nat.div_eq_of_lt (by omega)
    have hr : n % 2 ^ (n.log2 + 2) = n := Nat.mod_eq_of_lt (by omega)
    rw [hq, hr]
    have h1 : ¬ (2 ^ (n.log2 + 2) < 2 * n) := by omega
    have h2 : (2 ^ (n.log2 + 2) == 2 * n) = false := by simp; omega
    simp only [h1, h2, decide_false, Bool.false_and, Bool.or_false, Bool.toNat_false, Nat.add_zero]
    omega

/-! ### what a word stands for -/
/-- the number that a sign, a magnitude and a place stand for -/
def num (neg : Bool) (mag : Nat) (place : Int) : Rat := (if neg then -((mag : Nat) : Rat) else ((mag : Nat) : Rat)) * p2 place

theorem num_false (mag : Nat) (place : Int) : num false mag place = (mag : Rat) * p2 place := by simp [num]
theorem num_true (mag : Nat) (place : Int) : num true mag place = -((mag : Rat) * p2 place) := by simp [num, Rat.neg_mul]

/-- the format's fields are wide enough -/
structure Ok (f : Format) : Prop where
  e : 2 ≤ f.exponentBits
  p : 2 ≤ f.fractionBits
theorem ok_single : Ok single := ⟨by decide, by decide⟩
theorem ok_double : Ok double := ⟨by decide, by decide⟩

theorem signWeight_eq (f : Format) : f.signWeight = 2 ^ f.exponentBits * f.binade := by
  unfold Format.signWeight Format.binade; rw [Nat.pow_add]

theorem read_word (f : Format) (neg : Bool) (rung : Nat) (h : rung < f.signWeight) :
    f.read (f.word neg rung) = if rung < f.binade then .number neg rung f.leastPlace
      else if rung < f.infRung then .number neg (f.binade + rung % f.binade) (f.leastPlace + (rung / f.binade - 1 : Nat))
      else if rung = f.infRung then .infinity neg else .nan neg (rung - f.infRung) := by
  have h0 : 0 < f.signWeight := by omega
  have e1 : (f.word neg rung / f.signWeight % 2 == 1) = neg := by
    unfold Format.word
    cases neg
    · simp [Nat.div_eq_of_lt h]
    · simp only [if_true]
      rw [Nat.add_comm, Nat.add_div_right _ h0, Nat.div_eq_of_lt h]; rfl
  have e2 : f.word neg rung % f.signWeight = rung := by
    unfold Format.word
    cases neg
    · simp [Nat.mod_eq_of_lt h]
    · simp only [if_true]
      rw [Nat.add_comm, Nat.add_mod_right, Nat.mod_eq_of_lt h]
  unfold Format.read
  simp only [e1, e2]

/-- the value of 'kept' units of the place 'last', as the rung that 'nearest' gives it, reads back -/
theorem read_kept (f : Format) (neg : Bool) (up kept : Nat) (h1 : kept ≤ 2 * f.binade) (h2 : 0 < up → f.binade ≤ kept) (h3 : up * f.binade + kept < f.infRung) :
    ∃ m e, f.read (f.word neg (up * f.binade + kept)) = .number neg m e ∧ num neg m e = num neg kept (f.leastPlace + up) ∧ m < 2 * f.binade ∧ f.leastPlace ≤ e := by
  have hb : 0 < f.binade := Nat.two_pow_pos _
  have hlt : up * f.binade + kept < f.signWeight := Nat.lt_trans h3 f.infRung_lt
  rw [read_word f neg _ hlt]
  by_cases hs : up * f.binade + kept < f.binade
  · rw [if_pos hs]
    have hu : up = 0 := by
      rcases Nat.eq_zero_or_pos up with h | h
      · exact h
      · have := h2 h; omega
    subst hu
    refine ⟨_, _, rfl, ?_, by omega, Int.le_refl _⟩
    simp
  · rw [if_neg hs, if_pos h3]
    have hk : f.binade ≤ kept := by
      rcases Nat.eq_zero_or_pos up with h | h
      · subst h; omega
      · exact h2 h
    by_cases ht : kept = 2 * f.binade
    · have e1 : (up * f.binade + kept) % f.binade = 0 := by
        rw [ht, Nat.add_mod, Nat.mul_mod_left, Nat.mul_mod_left]; simp
      have e2 : (up * f.binade + kept) / f.binade = up + 2 := by
        rw [ht, ← Nat.add_mul]; exact Nat.mul_div_cancel _ hb
      rw [e1, e2]
      refine ⟨_, _, rfl, ?_, by omega, by omega⟩
      have e3 : f.leastPlace + ((up + 2 - 1 : Nat) : Int) = (f.leastPlace + up) + 1 := by omega
      rw [e3]
      unfold num
      rw [p2_add, p2_one, ht]
      cases neg <;> simp <;> grind
    · have hk2 : kept < 2 * f.binade := by omega
      obtain ⟨s, rfl⟩ : ∃ s, kept = f.binade + s := ⟨kept - f.binade, by omega⟩
      have hs2 : s < f.binade := by omega
      have e0 : up * f.binade + (f.binade + s) = (up + 1) * f.binade + s := by rw [Nat.add_mul]; omega
      have e1 : (up * f.binade + (f.binade + s)) % f.binade = s := by
        rw [e0, Nat.add_mod, Nat.mul_mod_left, Nat.zero_add, Nat.mod_mod, Nat.mod_eq_of_lt hs2]
      have e2 : (up * f.binade + (f.binade + s)) / f.binade = up + 1 := by
        rw [e0, Nat.mul_comm, Nat.mul_add_div hb, Nat.div_eq_of_lt hs2, Nat.add_zero]
      rw [e1, e2]
      refine ⟨_, _, rfl, ?_, by omega, by omega⟩
      have e3 : f.leastPlace + ((up + 1 - 1 : Nat) : Int) = f.leastPlace + up := by omega
      rw [e3]

/-! ### 'nearest' -/
theorem le_of_p2 {a b : Rat} (e : Int) (h : a * p2 e ≤ b * p2 e) : a ≤ b := Rat.le_of_mul_le_mul_right h (p2_pos e)

theorem binade_p2 (f : Format) : ((f.binade : Nat) : Rat) = p2 f.fractionBits := by rw [p2_nat]; rfl

/-- what 'nearest' does, in rational numbers -/
theorem nearest_spec (f : Format) (neg : Bool) (mag : Nat) (place : Int) (hm : mag ≠ 0) :
    ∃ up kept : Nat, f.nearest neg mag place = f.word neg (min (up * f.binade + kept) f.infRung) ∧ kept ≤ 2 * f.binade ∧ (0 < up → f.binade ≤ kept) ∧
      2 * ((kept : Rat) * p2 (f.leastPlace + up)) ≤ 2 * ((mag : Rat) * p2 place) + p2 (f.leastPlace + up) ∧
      2 * ((mag : Rat) * p2 place) ≤ 2 * ((kept : Rat) * p2 (f.leastPlace + up)) + p2 (f.leastPlace + up) ∧
      (0 < up → p2 (f.leastPlace + up + f.fractionBits) ≤ (mag : Rat) * p2 place) := by
  have hlast : ∃ last : Int, last = max (place + mag.log2 - f.fractionBits) f.leastPlace := ⟨_, rfl⟩
  obtain ⟨last, hl⟩ := hlast
  have hL : f.leastPlace ≤ last := by rw [hl]; exact Int.le_max_right _ _
  have hge : place + mag.log2 - f.fractionBits ≤ last := by rw [hl]; exact Int.le_max_left _ _
  obtain ⟨up, hup⟩ : ∃ up : Nat, last = f.leastPlace + up := ⟨(last - f.leastPlace).toNat, by omega⟩
  have hlog1 : 2 ^ mag.log2 ≤ mag := Nat.log2_self_le hm
  have hlog2 : mag < 2 ^ (mag.log2 + 1) := Nat.lt_log2_self
  obtain ⟨a, ha⟩ : ∃ a, a = (place - last).toNat := ⟨_, rfl⟩
  obtain ⟨d, hd⟩ : ∃ d, d = (last - place).toNat := ⟨_, rfl⟩
  have hab : place + d = last + a := by omega
  have hcut := cut_spec neg (mag <<< a) d
  obtain ⟨kept, hk⟩ : ∃ kept, kept = Toward.even.cut neg (mag <<< a) d := ⟨_, rfl⟩
  rw [← hk] at hcut
  have hval : f.nearest neg mag place = f.word neg (min (up * f.binade + kept) f.infRung) := by
    unfold Format.nearest
    rw [if_neg hm]
    simp only [← hl, ← ha, ← hd, ← hk]
    rw [show (last - f.leastPlace).toNat = up by omega]
  rw [Nat.shiftLeft_eq] at hcut
  -- the two inequalities, in rationals
  have key : ∀ x y : Nat, x ≤ y → (x : Rat) ≤ (y : Rat) := fun x y h => Rat.natCast_le_natCast.2 h
  have c1 := key _ _ hcut.1
  have c2 := key _ _ hcut.2
  have e2 : ∀ n : Nat, ((2 ^ n : Nat) : Rat) = p2 n := fun n => (p2_nat n).symm
  have hpl : p2 place * p2 d = p2 last * p2 a := by rw [← p2_add, ← p2_add, hab]
  simp only [Rat.natCast_add, Rat.natCast_mul, e2] at c1 c2
  have pd := p2_pos (d : Int)
  have pa := p2_pos (a : Int)
  have pl := p2_pos last
  have q1 : 2 * ((kept : Rat) * p2 last) ≤ 2 * ((mag : Rat) * p2 place) + p2 last := by
    refine Rat.le_of_mul_le_mul_right (c := p2 d) ?_ pd
    have := Rat.mul_le_mul_of_nonneg_right c1 (Rat.le_of_lt pl)
    have e : (mag : Rat) * p2 place * p2 d = mag * (p2 last * p2 a) := by rw [Rat.mul_assoc, hpl]
    have two : ((2 : Nat) : Rat) = 2 := rfl
    rw [two] at this
    grind
  have q2 : 2 * ((mag : Rat) * p2 place) ≤ 2 * ((kept : Rat) * p2 last) + p2 last := by
    refine Rat.le_of_mul_le_mul_right (c := p2 d) ?_ pd
    have := Rat.mul_le_mul_of_nonneg_right c2 (Rat.le_of_lt pl)
    have e : (mag : Rat) * p2 place * p2 d = mag * (p2 last * p2 a) := by rw [Rat.mul_assoc, hpl]
    have two : ((2 : Nat) : Rat) = 2 := rfl
    rw [two] at this
    grind
  -- sizes
  have m1 : (mag : Rat) ≤ p2 (mag.log2 + 1) := by
    have := key _ _ (Nat.le_of_lt hlog2)
    rw [e2] at this; exact this
  have m2 : p2 mag.log2 ≤ (mag : Rat) := by
    have := key _ _ hlog1
    rw [e2] at this; exact this
  have hx : (mag : Rat) * p2 place ≤ p2 (last + f.fractionBits + 1) := by
    have h1 := Rat.mul_le_mul_of_nonneg_right m1 (Rat.le_of_lt (p2_pos place))
    rw [← p2_add] at h1
    exact Rat.le_trans h1 (p2_le (by omega))
  have hkept : kept ≤ 2 * f.binade := by
    have h1 : 2 * ((kept : Rat) * p2 last) ≤ 2 * p2 (last + f.fractionBits + 1) + p2 last := by grind
    have h2 : p2 (last + f.fractionBits + 1) = (2 * f.binade : Nat) * p2 last := by
      rw [Rat.natCast_mul, binade_p2, p2_add, p2_add, p2_one]
      have : ((2 : Nat) : Rat) = 2 := rfl
      rw [this]; grind
    rw [h2] at h1
    have h3 : 2 * (kept : Rat) ≤ 2 * ((2 * f.binade : Nat) : Rat) + 1 := le_of_p2 last (by grind)
    have h4 : ((2 * kept : Nat) : Rat) ≤ ((2 * (2 * f.binade) + 1 : Nat) : Rat) := by
      simp only [Rat.natCast_add, Rat.natCast_mul] at h3 ⊢
      exact h3
    have := Rat.natCast_le_natCast.1 h4
    omega
  have hlow : 0 < up → p2 (last + f.fractionBits) ≤ (mag : Rat) * p2 place := by
    intro hu
    have hlast : last = place + mag.log2 - f.fractionBits := by omega
    have h1 := Rat.mul_le_mul_of_nonneg_right m2 (Rat.le_of_lt (p2_pos place))
    rw [← p2_add] at h1
    exact Rat.le_trans (p2_le (by omega)) h1
  have hkept2 : 0 < up → f.binade ≤ kept := by
    intro hu
    have h1 := hlow hu
    rw [p2_add, ← binade_p2] at h1
    have h3 : 2 * ((f.binade : Nat) : Rat) ≤ 2 * (kept : Rat) + 1 := le_of_p2 last (by grind)
    have h4 : ((2 * f.binade : Nat) : Rat) ≤ ((2 * kept + 1 : Nat) : Rat) := by
      simp only [Rat.natCast_add, Rat.natCast_mul]
      exact h3
    have := Rat.natCast_le_natCast.1 h4
    omega
  subst hup
  exact ⟨up, kept, hval, hkept, hkept2, q1, q2, hlow⟩

/-- u is a number of the format (of whatever size), not negative -/
def Rep (f : Format) (u : Rat) : Prop := ∃ (k : Nat) (j : Int), u = (k : Rat) * p2 j ∧ k < 2 * f.binade ∧ f.leastPlace ≤ j

theorem Rep.nonneg {f : Format} {u : Rat} (h : Rep f u) : 0 ≤ u := by
  obtain ⟨k, j, rfl, _, _⟩ := h
  exact Rat.mul_nonneg Rat.natCast_nonneg (Rat.le_of_lt (p2_pos j))

/-- what is rounded stays between the numbers of the format between which it lies -/
theorem between {f : Format} {v : Rat} {up kept : Nat} (h0 : 0 < up → f.binade ≤ kept)
    (h1 : 2 * ((kept : Rat) * p2 (f.leastPlace + up)) ≤ 2 * v + p2 (f.leastPlace + up))
    (h2 : 2 * v ≤ 2 * ((kept : Rat) * p2 (f.leastPlace + up)) + p2 (f.leastPlace + up))
    (h3 : 0 < up → p2 (f.leastPlace + up + f.fractionBits) ≤ v) {u : Rat} (hu : Rep f u) :
    (v ≤ u → (kept : Rat) * p2 (f.leastPlace + up) ≤ u) ∧ (u ≤ v → u ≤ (kept : Rat) * p2 (f.leastPlace + up)) := by
  obtain ⟨k, j, rfl, hk, hj⟩ := hu
  have pl := p2_pos (f.leastPlace + up)
  by_cases hc : f.leastPlace + up ≤ j
  · obtain ⟨t, ht⟩ : ∃ t : Nat, j = f.leastPlace + up + t := ⟨(j - (f.leastPlace + up)).toNat, by omega⟩
    have eu : (k : Rat) * p2 j = ((k * 2 ^ t : Nat) : Rat) * p2 (f.leastPlace + up) := by
      rw [ht, p2_add, Rat.natCast_mul, ← p2_nat]; grind
    rw [eu]
    constructor
    · intro h
      have h4 : 2 * (kept : Rat) ≤ 2 * ((k * 2 ^ t : Nat) : Rat) + 1 := le_of_p2 (f.leastPlace + up) (by grind)
      have h5 : ((2 * kept : Nat) : Rat) ≤ ((2 * (k * 2 ^ t) + 1 : Nat) : Rat) := by
        simp only [Rat.natCast_add, Rat.natCast_mul] at h4 ⊢; exact h4
      have h6 := Rat.natCast_le_natCast.1 h5
      have h7 : kept ≤ k * 2 ^ t := by omega
      exact Rat.mul_le_mul_of_nonneg_right (Rat.natCast_le_natCast.2 h7) (Rat.le_of_lt pl)
    · intro h
      have h4 : 2 * ((k * 2 ^ t : Nat) : Rat) ≤ 2 * (kept : Rat) + 1 := le_of_p2 (f.leastPlace + up) (by grind)
      have h5 : ((2 * (k * 2 ^ t) : Nat) : Rat) ≤ ((2 * kept + 1 : Nat) : Rat) := by
        simp only [Rat.natCast_add, Rat.natCast_mul] at h4 ⊢; exact h4
      have h6 := Rat.natCast_le_natCast.1 h5
      have h7 : k * 2 ^ t ≤ kept := by omega
      exact Rat.mul_le_mul_of_nonneg_right (Rat.natCast_le_natCast.2 h7) (Rat.le_of_lt pl)
  · have hu0 : 0 < up := by omega
    have h4 := h3 hu0
    have h5 : (k : Rat) * p2 j < p2 (f.leastPlace + up + f.fractionBits) := by
      have h6 : (k : Rat) < ((2 * f.binade : Nat) : Rat) := Rat.natCast_lt_natCast.2 hk
      have h7 := Rat.mul_lt_mul_of_pos_right h6 (p2_pos j)
      have h8 : ((2 * f.binade : Nat) : Rat) * p2 j = p2 (j + f.fractionBits + 1) := by
        rw [Rat.natCast_mul, binade_p2, p2_add, p2_add, p2_one]
        have : ((2 : Nat) : Rat) = 2 := rfl
        rw [this]; grind
      rw [h8] at h7
      have h9 : p2 (j + f.fractionBits + 1) ≤ p2 (f.leastPlace + up + f.fractionBits) := p2_le (by omega)
      grind
    constructor
    · intro h; grind
    · intro _
      have h6 : ((f.binade : Nat) : Rat) ≤ (kept : Rat) := Rat.natCast_le_natCast.2 (h0 hu0)
      have h7 := Rat.mul_le_mul_of_nonneg_right h6 (Rat.le_of_lt pl)
      have h8 : ((f.binade : Nat) : Rat) * p2 (f.leastPlace + up) = p2 (f.leastPlace + up + f.fractionBits) := by
        rw [binade_p2, p2_add _ (f.fractionBits : Int)]; grind
      grind

/-! ### words and their numbers -/
/-- the word x stands for the finite number v -/
def Fin (f : Format) (x : Nat) (v : Rat) : Prop := ∃ neg mag place, f.read x = .number neg mag place ∧ v = num neg mag place

/-- numbers from here on are infinite -/
def top (f : Format) : Int := f.leastPlace + (2 ^ f.exponentBits - 2) + f.fractionBits

/-- c is v, rounded -/
structure Rd (f : Format) (v c : Rat) : Prop where
  above : ∀ u, Rep f u → v ≤ u → c ≤ u
  below : ∀ u, Rep f u → u ≤ v → u ≤ c
  aboveN : ∀ u, Rep f u → v ≤ -u → c ≤ -u
  belowN : ∀ u, Rep f u → -u ≤ v → -u ≤ c
  err : 2 * (c - v).abs ≤ p2 f.leastPlace ∨ 2 * (c - v).abs ≤ v.abs * p2 (-f.fractionBits)

theorem Rep.zero (f : Format) : Rep f 0 := ⟨0, f.leastPlace, by simp, by have : 0 < f.binade := Nat.two_pow_pos _; omega, Int.le_refl _⟩

theorem p2_top (f : Format) (h : 2 ≤ f.exponentBits) : p2 (top f) = ((f.binade * 2 ^ (2 ^ f.exponentBits - 2) : Nat) : Rat) * p2 f.leastPlace := by
  unfold top
  have h4 : 4 ≤ 2 ^ f.exponentBits := Nat.pow_le_pow_right (n := 2) (by decide) h
  have e : (2 ^ f.exponentBits - 2 : Int) = ((2 ^ f.exponentBits - 2 : Nat) : Int) := by
    have : ((2 ^ f.exponentBits : Nat) : Int) = 2 ^ f.exponentBits := by simp
    omega
  rw [p2_add, p2_add, e, Rat.natCast_mul, binade_p2, p2_nat (2 ^ f.exponentBits - 2)]
  grind

theorem rung_lt {f : Format} (h : 2 ≤ f.exponentBits) {up kept : Nat} (h1 : kept ≤ 2 * f.binade) (h2 : 0 < up → f.binade ≤ kept)
    (h3 : (kept : Rat) * p2 (f.leastPlace + up) < p2 (top f)) : up * f.binade + kept < f.infRung := by
  have hb : 0 < f.binade := Nat.two_pow_pos _
  have h4 : 4 ≤ 2 ^ f.exponentBits := Nat.pow_le_pow_right (n := 2) (by decide) h
  have hi : f.infRung = (2 ^ f.exponentBits - 1) * f.binade := rfl
  generalize hE : 2 ^ f.exponentBits = E at *
  rw [p2_top f h, hE] at h3
  have e1 : (kept : Rat) * p2 (f.leastPlace + up) = ((kept * 2 ^ up : Nat) : Rat) * p2 f.leastPlace := by
    rw [p2_add, Rat.natCast_mul, ← p2_nat]; grind
  rw [e1] at h3
  have h5 : ((kept * 2 ^ up : Nat) : Rat) < ((f.binade * 2 ^ (E - 2) : Nat) : Rat) := Rat.lt_of_mul_lt_mul_right h3 (Rat.le_of_lt (p2_pos _))
  have h6 := Rat.natCast_lt_natCast.1 h5
  rw [hi]
  refine Nat.lt_of_not_le fun hn => ?_
  by_cases hu : E - 1 ≤ up
  · have hk := h2 (by omega)
    have : 2 ^ (E - 2) ≤ 2 ^ up := Nat.pow_le_pow_right (by decide) (by omega)
    have := Nat.mul_le_mul hk this
    omega
  · by_cases hu2 : up = E - 2
    · have hk : f.binade ≤ kept := h2 (by omega)
      have := Nat.mul_le_mul hk (Nat.le_refl (2 ^ up))
      rw [hu2] at this h6
      omega
    · by_cases hu3 : up = E - 3
      · have h9 : (E - 1) * f.binade = (E - 3) * f.binade + 2 * f.binade := by rw [← Nat.add_mul]; congr 1; omega
        have hk : 2 * f.binade ≤ kept := by rw [hu3] at hn; omega
        have := Nat.mul_le_mul hk (Nat.le_refl (2 ^ up))
        have e2 : 2 ^ (E - 2) = 2 * 2 ^ (E - 3) := by rw [show E - 2 = (E - 3) + 1 by omega, Nat.pow_succ, Nat.mul_comm]
        have e3 : f.binade * (2 * 2 ^ (E - 3)) = 2 * f.binade * 2 ^ (E - 3) := by grind
        rw [hu3] at this
        rw [hu3, e2] at h6
        omega
      have h7 : up + 4 ≤ E := by omega
      have h8 : (up + 4) * f.binade ≤ E * f.binade := Nat.mul_le_mul_right _ h7
      have h9 : (E - 1) * f.binade = E * f.binade - f.binade := by rw [Nat.sub_mul, Nat.one_mul]
      have h10 : (up + 4) * f.binade = up * f.binade + 4 * f.binade := by rw [Nat.add_mul]
      omega

theorem num_neg_abs (neg : Bool) (mag : Nat) (place : Int) : (num neg mag place).abs = (mag : Rat) * p2 place := by
  have h : 0 ≤ (mag : Rat) * p2 place := Rat.mul_nonneg Rat.natCast_nonneg (Rat.le_of_lt (p2_pos _))
  cases neg
  · rw [num_false]; unfold Rat.abs; grind
  · rw [num_true]; unfold Rat.abs; grind

theorem p2_half {a v : Rat} (k : Int) (P : Nat) (h : 2 * a ≤ p2 k) (hv : p2 (k + P) ≤ v) : 2 * a ≤ v * p2 (-P) := by
  have h1 : p2 (k + P) * p2 (-P) ≤ v * p2 (-P) := Rat.mul_le_mul_of_nonneg_right hv (Rat.le_of_lt (p2_pos _))
  rw [← p2_add] at h1
  have e : k + P + -P = k := by omega
  rw [e] at h1
  exact Rat.le_trans h h1

/-- 'nearest' where nothing overflows -/
theorem nearest_fin {f : Format} (h : 2 ≤ f.exponentBits) (neg : Bool) (mag : Nat) (place : Int) {u : Rat} (hu : Rep f u) (ht : u < p2 (top f)) (hv : (mag : Rat) * p2 place ≤ u) :
    ∃ c, Fin f (f.nearest neg mag place) c ∧ Rd f (num neg mag place) c := by
  by_cases hm : mag = 0
  · subst hm
    have e0 : num neg 0 place = 0 := by cases neg <;> simp [num]
    have e1 : f.nearest neg 0 place = f.word neg 0 := by simp [Format.nearest]
    have hb : 0 < f.binade := Nat.two_pow_pos _
    have hs : 0 < f.signWeight := Nat.two_pow_pos _
    refine ⟨0, ⟨neg, 0, f.leastPlace, ?_, ?_⟩, ?_⟩
    · rw [e1, read_word f neg 0 hs, if_pos hb]
    · cases neg <;> simp [num]
    · rw [e0]
      refine ⟨fun u _ h => h, fun u _ h => h, fun u _ h => h, fun u _ h => h, Or.inl ?_⟩
      have := p2_pos f.leastPlace
      have : ((0 : Rat) - 0).abs = 0 := by unfold Rat.abs; grind
      grind
  · obtain ⟨up, kept, hval, hk, hk2, q1, q2, hlow⟩ := nearest_spec f neg mag place hm
    have hbet := fun {u : Rat} (hu : Rep f u) => between hk2 q1 q2 hlow hu
    have hc : (kept : Rat) * p2 (f.leastPlace + up) ≤ u := (hbet hu).1 hv
    have hr := rung_lt h hk hk2 (by grind)
    obtain ⟨m, e, hread, hnum, _, _⟩ := read_kept f neg up kept hk hk2 hr
    rw [hval, Nat.min_eq_left (by omega)]
    refine ⟨num neg kept (f.leastPlace + up), ⟨neg, m, e, hread, hnum.symm⟩, ?_⟩
    have hpos : 0 ≤ (mag : Rat) * p2 place := Rat.mul_nonneg Rat.natCast_nonneg (Rat.le_of_lt (p2_pos _))
    have hpos2 : 0 ≤ (kept : Rat) * p2 (f.leastPlace + up) := Rat.mul_nonneg Rat.natCast_nonneg (Rat.le_of_lt (p2_pos _))
    have herr : 2 * ((kept : Rat) * p2 (f.leastPlace + up) - (mag : Rat) * p2 place).abs ≤ p2 f.leastPlace ∨ 2 * ((kept : Rat) * p2 (f.leastPlace + up) - (mag : Rat) * p2 place).abs ≤ ((mag : Rat) * p2 place) * p2 (-f.fractionBits) := by
      have hab : 2 * ((kept : Rat) * p2 (f.leastPlace + up) - (mag : Rat) * p2 place).abs ≤ p2 (f.leastPlace + up) := by
        unfold Rat.abs; split <;> grind
      rcases Nat.eq_zero_or_pos up with h0 | h0
      · left; subst h0; simpa using hab
      · right
        exact p2_half _ _ hab (hlow h0)
    cases neg
    · rw [num_false, num_false]
      refine ⟨fun u hu h => (hbet hu).1 h, fun u hu h => (hbet hu).2 h, fun u hu h => ?_, fun u hu _ => ?_, ?_⟩
      · have := hu.nonneg
        have h1 : u = 0 := by grind
        subst h1
        have h2 := (hbet (Rep.zero f)).1 (by grind)
        grind
      · have := hu.nonneg; grind
      · rcases herr with h1 | h1
        · exact Or.inl h1
        · right
          have : ((mag : Rat) * p2 place).abs = (mag : Rat) * p2 place := by unfold Rat.abs; grind
          rw [this]; exact h1
    · rw [num_true, num_true]
      refine ⟨fun u hu h => ?_, fun u hu h => ?_, fun u hu h => ?_, fun u hu h => ?_, ?_⟩
      · have := hu.nonneg; grind
      · have := hu.nonneg
        have h1 : u = 0 := by grind
        subst h1
        have h2 := (hbet (Rep.zero f)).1 (by grind)
        grind
      · have := (hbet hu).2 (by grind); grind
      · have := (hbet hu).1 (by grind); grind
      · have e1 : (-((kept : Rat) * p2 (f.leastPlace + up)) - -((mag : Rat) * p2 place)).abs = ((kept : Rat) * p2 (f.leastPlace + up) - (mag : Rat) * p2 place).abs := by
          unfold Rat.abs; split <;> split <;> grind
        have e2 : (-((mag : Rat) * p2 place)).abs = (mag : Rat) * p2 place := by unfold Rat.abs; grind
        rw [e1, e2]; exact herr

/-! ### the operations -/
theorem Fin.unique {f : Format} {x : Nat} {a b : Rat} (h : Fin f x a) (k : Fin f x b) : a = b := by
  obtain ⟨_, _, _, h1, rfl⟩ := h
  obtain ⟨_, _, _, h2, rfl⟩ := k
  rw [h1] at h2; cases h2; rfl

theorem signed_num (s : Bool) (m : Nat) (i base : Int) (h : base ≤ i) : ((signed s m (i - base).toNat : Int) : Rat) * p2 base = num s m i := by
  have e : i = ((i - base).toNat : Int) + base := by omega
  have hp : p2 i = ((2 ^ (i - base).toNat : Nat) : Rat) * p2 base := by
    rw [← p2_nat, ← p2_add, ← e]
  unfold signed num
  cases s
  · simp only [Bool.false_eq_true, if_false, Nat.shiftLeft_eq, hp]
    rw [Rat.intCast_natCast, Rat.natCast_mul]; grind
  · simp only [if_true, Nat.shiftLeft_eq, hp]
    rw [Rat.intCast_neg, Rat.intCast_natCast, Rat.natCast_mul]; grind

theorem num_of_int (t : Int) (s : Bool) (base : Int) : num (if t = 0 then s else decide (t < 0)) t.natAbs base = (t : Rat) * p2 base := by
  by_cases h0 : t = 0
  · subst h0; simp [num]
  · rw [if_neg h0]
    rcases Int.lt_trichotomy t 0 with h | h | h
    · have e : decide (t < 0) = true := by simp [h]
      have e2 : t = -(t.natAbs : Int) := by omega
      rw [e, num_true]
      have : (t : Rat) = -((t.natAbs : Nat) : Rat) := by
        conv => lhs; rw [e2]
        rw [Rat.intCast_neg, Rat.intCast_natCast]
      rw [this, Rat.neg_mul]
    · exact absurd h h0
    · have e : decide (t < 0) = false := by simp; omega
      have e2 : t = (t.natAbs : Int) := by omega
      rw [e, num_false]
      have : (t : Rat) = ((t.natAbs : Nat) : Rat) := by
        conv => lhs; rw [e2]
        rw [Rat.intCast_natCast]
      rw [this]

theorem mag_le {neg : Bool} {mag : Nat} {place : Int} {v u : Rat} (e : num neg mag place = v) (h : v.abs ≤ u) : (mag : Rat) * p2 place ≤ u := by
  rw [← e, num_neg_abs] at h; exact h

theorem add_fin {f : Format} (h : 2 ≤ f.exponentBits) {x y : Nat} {a b u : Rat} (hx : Fin f x a) (hy : Fin f y b) (hu : Rep f u) (ht : u < p2 (top f)) (hv : (a + b).abs ≤ u) :
    ∃ r c, f.add x y = some r ∧ Fin f r c ∧ Rd f (a + b) c := by
  obtain ⟨s, m, i, hx, rfl⟩ := hx
  obtain ⟨t, n, j, hy, rfl⟩ := hy
  have hsum : num (if (signed s m (i - min i j).toNat + signed t n (j - min i j).toNat) = 0 then s && t else decide (signed s m (i - min i j).toNat + signed t n (j - min i j).toNat < 0))
      (signed s m (i - min i j).toNat + signed t n (j - min i j).toNat).natAbs (min i j) = num s m i + num t n j := by
    rw [num_of_int, Rat.intCast_add, Rat.add_mul, signed_num _ _ _ _ (by omega), signed_num _ _ _ _ (by omega)]
  obtain ⟨c, h1, h2⟩ := nearest_fin h _ _ _ hu ht (mag_le hsum hv)
  rw [hsum] at h2
  refine ⟨_, c, ?_, h1, h2⟩
  unfold Format.add
  rw [hx, hy]
  simp only [Datum.sum, Option.map_some, Format.write]

theorem num_opposite (s : Bool) (m : Nat) (i : Int) : num (!s) m i = -num s m i := by
  cases s <;> simp [num, Rat.neg_mul]

theorem sub_fin {f : Format} (h : 2 ≤ f.exponentBits) {x y : Nat} {a b u : Rat} (hx : Fin f x a) (hy : Fin f y b) (hu : Rep f u) (ht : u < p2 (top f)) (hv : (a - b).abs ≤ u) :
    ∃ r c, f.sub x y = some r ∧ Fin f r c ∧ Rd f (a - b) c := by
  obtain ⟨s, m, i, hx, rfl⟩ := hx
  obtain ⟨t, n, j, hy, rfl⟩ := hy
  have hsum : num (if (signed s m (i - min i j).toNat + signed (!t) n (j - min i j).toNat) = 0 then s && (!t) else decide (signed s m (i - min i j).toNat + signed (!t) n (j - min i j).toNat < 0))
      (signed s m (i - min i j).toNat + signed (!t) n (j - min i j).toNat).natAbs (min i j) = num s m i - num t n j := by
    rw [num_of_int, Rat.intCast_add, Rat.add_mul, signed_num _ _ _ _ (by omega), signed_num _ _ _ _ (by omega), num_opposite, Rat.sub_eq_add_neg]
  obtain ⟨c, h1, h2⟩ := nearest_fin h _ _ _ hu ht (mag_le hsum hv)
  rw [hsum] at h2
  refine ⟨_, c, ?_, h1, h2⟩
  unfold Format.sub
  rw [hx, hy]
  simp only [Datum.sum, Datum.opposite, Option.map_some, Format.write]

theorem num_mul (s t : Bool) (m n : Nat) (i j : Int) : num (s ^^ t) (m * n) (i + j) = num s m i * num t n j := by
  unfold num
  rw [p2_add]
  cases s <;> cases t <;> simp [Rat.natCast_mul] <;> grind

theorem mul_fin {f : Format} (h : 2 ≤ f.exponentBits) {x y : Nat} {a b u : Rat} (hx : Fin f x a) (hy : Fin f y b) (hu : Rep f u) (ht : u < p2 (top f)) (hv : (a * b).abs ≤ u) :
    ∃ r c, f.mul x y = some r ∧ Fin f r c ∧ Rd f (a * b) c := by
  obtain ⟨s, m, i, hx, rfl⟩ := hx
  obtain ⟨t, n, j, hy, rfl⟩ := hy
  obtain ⟨c, h1, h2⟩ := nearest_fin h _ _ _ hu ht (mag_le (num_mul s t m n i j) hv)
  rw [num_mul] at h2
  refine ⟨_, c, ?_, h1, h2⟩
  unfold Format.mul
  rw [hx, hy]
  simp only [Datum.product, Option.map_some, Format.write]

/-- an integer as a word -/
theorem int_fin {f : Format} (h : 2 ≤ f.exponentBits) (n : Int) {u : Rat} (hu : Rep f u) (ht : u < p2 (top f)) (hv : (n : Rat).abs ≤ u) :
    ∃ c, Fin f (f.write (.number (n < 0) n.natAbs 0)) c ∧ Rd f (n : Rat) c := by
  have e : num (decide (n < 0)) n.natAbs 0 = (n : Rat) := by
    have := num_of_int n false 0
    rw [p2_zero, Rat.mul_one] at this
    rw [← this]
    by_cases h0 : n = 0
    · subst h0; simp
    · rw [if_neg h0]
  obtain ⟨c, h1, h2⟩ := nearest_fin h _ _ _ hu ht (mag_le e hv)
  rw [e] at h2
  exact ⟨c, h1, h2⟩

/-- a number of another format, written in this one -/
theorem write_fin {f g : Format} (h : 2 ≤ f.exponentBits) {x : Nat} {a u : Rat} (hx : Fin g x a) (hu : Rep f u) (ht : u < p2 (top f)) (hv : a.abs ≤ u) :
    ∃ c, Fin f (f.write (g.read x)) c ∧ Rd f a c := by
  obtain ⟨s, m, i, hx, rfl⟩ := hx
  obtain ⟨c, h1, h2⟩ := nearest_fin h s m i hu ht (mag_le rfl hv)
  rw [hx]
  exact ⟨c, h1, h2⟩

/-- what is a number of the format is rounded to itself -/
theorem Rd.exact {f : Format} {v c : Rat} (h : Rd f v c) (hv : Rep f v) : c = v :=
  Rat.le_antisymm (h.above v hv Rat.le_refl) (h.below v hv Rat.le_refl)
theorem Rd.exactN {f : Format} {v c : Rat} (h : Rd f v c) (hv : Rep f (-v)) : c = v := by
  have h1 := h.aboveN _ hv (by grind)
  have h2 := h.belowN _ hv (by grind)
  grind

/-- how two words compare -/
theorem order_fin {f : Format} {x y : Nat} {a b : Rat} (hx : Fin f x a) (hy : Fin f y b) :
    f.order x y = some (if a < b then .lt else if a = b then .eq else .gt) := by
  obtain ⟨s, m, i, hx, rfl⟩ := hx
  obtain ⟨t, n, j, hy, rfl⟩ := hy
  have e1 := signed_num s m i (min i j) (by omega)
  have e2 := signed_num t n j (min i j) (by omega)
  have hp := p2_pos (min i j)
  unfold Format.order
  rw [hx, hy]
  simp only [Datum.order]
  rw [← e1, ← e2]
  congr 1
  generalize signed s m (i - min i j).toNat = P
  generalize signed t n (j - min i j).toNat = Q
  have lt_iff : (P : Rat) * p2 (min i j) < (Q : Rat) * p2 (min i j) ↔ P < Q := by
    rw [Rat.mul_lt_mul_right hp, Rat.intCast_lt_intCast]
  have eq_iff : (P : Rat) * p2 (min i j) = (Q : Rat) * p2 (min i j) ↔ P = Q := by
    constructor
    · intro h
      have : (P : Rat) = (Q : Rat) := by
        have hne := p2_ne (min i j)
        have h2 : (P : Rat) * p2 (min i j) / p2 (min i j) = (Q : Rat) * p2 (min i j) / p2 (min i j) := by rw [h]
        rwa [Rat.mul_div_cancel hne, Rat.mul_div_cancel hne] at h2
      exact Rat.intCast_inj.1 this
    · intro h; rw [h]
  simp only [lt_iff, eq_iff]
  show compareOfLessAndEq P Q = _
  unfold compareOfLessAndEq
  rfl

/-! ### small whole numbers -/
theorem Rep.nat {f : Format} (hf : f.leastPlace ≤ 0) (n : Nat) (h : n < 2 * f.binade) : Rep f (n : Rat) := ⟨n, 0, by rw [p2_zero, Rat.mul_one], h, hf⟩

/-- x stands for the whole number n, exactly -/
abbrev Whole (f : Format) (x : Nat) (n : Int) : Prop := Fin f x (n : Rat)

theorem abs_int (n : Int) : ((n : Int) : Rat).abs = ((n.natAbs : Nat) : Rat) := by
  rcases Int.natAbs_eq n with h | h
  · conv => lhs; rw [h]
    rw [Rat.intCast_natCast]
    have : 0 ≤ ((n.natAbs : Nat) : Rat) := Rat.natCast_nonneg
    unfold Rat.abs; grind
  · conv => lhs; rw [h]
    rw [Rat.intCast_neg, Rat.intCast_natCast]
    have : 0 ≤ ((n.natAbs : Nat) : Rat) := Rat.natCast_nonneg
    unfold Rat.abs; grind

theorem Rd.whole {f : Format} (hf : f.leastPlace ≤ 0) {n : Int} {c : Rat} (h : Rd f (n : Rat) c) (hn : n.natAbs < 2 * f.binade) : c = (n : Rat) := by
  rcases Int.natAbs_eq n with e | e
  · refine h.exact ?_
    rw [e, Rat.intCast_natCast]
    exact Rep.nat hf _ hn
  · refine h.exactN ?_
    rw [e, Rat.intCast_neg, Rat.intCast_natCast, Rat.neg_neg]
    exact Rep.nat hf _ hn

/-- whole numbers below this bound are exact in the format -/
structure Small (f : Format) (N : Nat) : Prop where
  e : 2 ≤ f.exponentBits
  l : f.leastPlace ≤ 0
  b : N < 2 * f.binade
  t : ((N : Nat) : Rat) < p2 (top f)

theorem small_single : Small single 16777215 := ⟨by decide, by decide, by decide, by
  have h : p2 24 < p2 (top single) := p2_lt (by decide)
  have h2 : p2 24 = ((16777216 : Nat) : Rat) := p2_nat 24
  rw [h2] at h
  have h3 : ((16777215 : Nat) : Rat) < ((16777216 : Nat) : Rat) := Rat.natCast_lt_natCast.2 (by decide)
  grind⟩

theorem whole_bound {N : Nat} {n : Int} (h : n.natAbs ≤ N) : ((n : Int) : Rat).abs ≤ (N : Rat) := by
  rw [abs_int]; exact Rat.natCast_le_natCast.2 h

section
variable {f : Format} {N : Nat} (hs : Small f N)
include hs
theorem whole_add {x y : Nat} {a b : Int} (hx : Whole f x a) (hy : Whole f y b) (h : (a + b).natAbs ≤ N) : ∃ r, f.add x y = some r ∧ Whole f r (a + b) := by
  obtain ⟨r, c, h1, h2, h3⟩ := add_fin hs.e hx hy (Rep.nat hs.l N hs.b) hs.t (by rw [← Rat.intCast_add]; exact whole_bound h)
  rw [← Rat.intCast_add] at h3
  have := h3.whole hs.l (Nat.lt_of_le_of_lt h hs.b)
  subst this
  exact ⟨r, h1, h2⟩
theorem whole_sub {x y : Nat} {a b : Int} (hx : Whole f x a) (hy : Whole f y b) (h : (a - b).natAbs ≤ N) : ∃ r, f.sub x y = some r ∧ Whole f r (a - b) := by
  obtain ⟨r, c, h1, h2, h3⟩ := sub_fin hs.e hx hy (Rep.nat hs.l N hs.b) hs.t (by rw [← Rat.intCast_sub]; exact whole_bound h)
  rw [← Rat.intCast_sub] at h3
  have := h3.whole hs.l (Nat.lt_of_le_of_lt h hs.b)
  subst this
  exact ⟨r, h1, h2⟩
theorem whole_mul {x y : Nat} {a b : Int} (hx : Whole f x a) (hy : Whole f y b) (h : (a * b).natAbs ≤ N) : ∃ r, f.mul x y = some r ∧ Whole f r (a * b) := by
  obtain ⟨r, c, h1, h2, h3⟩ := mul_fin hs.e hx hy (Rep.nat hs.l N hs.b) hs.t (by rw [← Rat.intCast_mul]; exact whole_bound h)
  rw [← Rat.intCast_mul] at h3
  have := h3.whole hs.l (Nat.lt_of_le_of_lt h hs.b)
  subst this
  exact ⟨r, h1, h2⟩
theorem whole_int (n : Int) (h : n.natAbs ≤ N) : Whole f (f.write (.number (n < 0) n.natAbs 0)) n := by
  obtain ⟨c, h1, h2⟩ := int_fin hs.e n (Rep.nat hs.l N hs.b) hs.t (whole_bound h)
  have := h2.whole hs.l (Nat.lt_of_le_of_lt h hs.b)
  subst this
  exact h1
end
theorem whole_eq {f : Format} {x y : Nat} {a : Int} (hx : Whole f x a) (hy : Whole f y a) : f.order x y = some .eq := by
  rw [order_fin hx hy, if_neg Rat.lt_irrefl, if_pos rfl]

/-! ### the square root -/
theorem rootFrom_spec (n : Nat) : ∀ (todo root : Nat), root * root ≤ n → n < (root + 2 ^ todo) * (root + 2 ^ todo) →
    Datum.rootFrom n todo root * Datum.rootFrom n todo root ≤ n ∧ n < (Datum.rootFrom n todo root + 1) * (Datum.rootFrom n todo root + 1)
  | 0, root, h1, h2 => by
    simp only [Datum.rootFrom]
    simp at h2
    exact ⟨h1, h2⟩
  | todo + 1, root, h1, h2 => by
    simp only [Datum.rootFrom, Nat.shiftLeft_eq, Nat.one_mul]
    by_cases h : (root + 2 ^ todo) * (root + 2 ^ todo) ≤ n
    · rw [if_pos h]
      refine rootFrom_spec n todo _ h ?_
      have e : root + 2 ^ todo + 2 ^ todo = root + 2 ^ (todo + 1) := by rw [Nat.pow_succ]; omega
      rw [e]; exact h2
    · rw [if_neg h]
      exact rootFrom_spec n todo _ h1 (by omega)

theorem root_spec (n : Nat) : Datum.rootFrom n (n.log2 / 2 + 1) 0 * Datum.rootFrom n (n.log2 / 2 + 1) 0 ≤ n ∧ n < (Datum.rootFrom n (n.log2 / 2 + 1) 0 + 1) * (Datum.rootFrom n (n.log2 / 2 + 1) 0 + 1) := by
  refine rootFrom_spec n _ 0 (by omega) ?_
  rw [Nat.zero_add, ← Nat.pow_add]
  have h : n < 2 ^ (n.log2 + 1) := Nat.lt_log2_self
  have h2 : 2 ^ (n.log2 + 1) ≤ 2 ^ (n.log2 / 2 + 1 + (n.log2 / 2 + 1)) := Nat.pow_le_pow_right (by decide) (by omega)
  omega

theorem sq_le_sq {a b : Rat} (ha : 0 ≤ a) (hab : a ≤ b) : a * a ≤ b * b :=
  Rat.le_trans (Rat.mul_le_mul_of_nonneg_left hab ha) (Rat.mul_le_mul_of_nonneg_right hab (Rat.le_trans ha hab))
theorem le_of_sq {a b : Rat} (hb : 0 ≤ b) (h : a * a ≤ b * b) : a ≤ b := by
  refine Rat.not_lt.1 fun hlt => ?_
  have h1 : b * b < a * a := by
    have ha : 0 < a := by grind
    have h2 : b * b ≤ b * a := Rat.mul_le_mul_of_nonneg_left (Rat.le_of_lt hlt) hb
    have h3 : b * a < a * a := Rat.mul_lt_mul_of_pos_right hlt ha
    grind
  grind

/-- the root of a magnitude: twice the whole root and a last digit that tells whether it is whole -/
theorem root_between {f : Format} {m more : Nat} {i : Int} (hm : m ≠ 0) (h1 : 2 * (f.fractionBits + 2) ≤ m.log2 + more) {P : Int} (hP : i - more = 2 * P) :
    ∃ w b : Nat, w = Datum.rootFrom (m <<< more) ((m <<< more).log2 / 2 + 1) 0 ∧ b = (w * w != m <<< more).toNat ∧
      ∀ u, Rep f u → ((m : Rat) * p2 i ≤ u * u → ((2 * w + b : Nat) : Rat) * p2 (P - 1) ≤ u) ∧ (u * u ≤ (m : Rat) * p2 i → u ≤ ((2 * w + b : Nat) : Rat) * p2 (P - 1)) := by
  obtain ⟨n, hn⟩ : ∃ n, n = m <<< more := ⟨_, rfl⟩
  have hn2 : n = m * 2 ^ more := by rw [hn, Nat.shiftLeft_eq]
  have hn0 : n ≠ 0 := by
    rw [hn2]
    have := Nat.two_pow_pos more
    exact Nat.mul_ne_zero hm (by omega)
  obtain ⟨w, hw⟩ : ∃ w, w = Datum.rootFrom n (n.log2 / 2 + 1) 0 := ⟨_, rfl⟩
  have hspec := root_spec n
  rw [← hw] at hspec
  obtain ⟨b, hb⟩ : ∃ b, b = (w * w != n).toNat := ⟨_, rfl⟩
  rw [← hn]
  refine ⟨w, b, hw, hb, ?_⟩
  have hb1 : b ≤ 1 := by rw [hb]; cases (w * w != n) <;> simp
  have hb0 : w * w = n → b = 0 := by intro h; rw [hb, h]; simp
  -- the number is n times the square of p2 P
  have hval : (m : Rat) * p2 i = (n : Rat) * (p2 P * p2 P) := by
    have e : i = (more : Int) + (P + P) := by omega
    rw [e, p2_add, p2_add, hn2, Rat.natCast_mul, p2_nat]; grind
  have hP1 : p2 P = 2 * p2 (P - 1) := by
    have e : P = (P - 1) + 1 := by omega
    conv => lhs; rw [e]
    rw [p2_add, p2_one]; grind
  have hpos := p2_pos P
  have hlow : 2 ^ (f.fractionBits + 2) ≤ w := by
    refine Nat.le_of_lt_succ (Nat.lt_of_not_le fun hc => ?_)
    have h3 : 2 ^ (m.log2 + more) ≤ n := by
      rw [hn2, Nat.pow_add]; exact Nat.mul_le_mul_right _ (Nat.log2_self_le hm)
    have h4 : 2 ^ (2 * (f.fractionBits + 2)) ≤ n := Nat.le_trans (Nat.pow_le_pow_right (by decide) h1) h3
    have h5 : (w + 1) * (w + 1) ≤ 2 ^ (f.fractionBits + 2) * 2 ^ (f.fractionBits + 2) := Nat.mul_le_mul hc hc
    rw [← Nat.pow_add, show f.fractionBits + 2 + (f.fractionBits + 2) = 2 * (f.fractionBits + 2) by omega] at h5
    omega
  intro u hu
  have hu0 := hu.nonneg
  obtain ⟨k, j, rfl, hk, hj⟩ := hu
  by_cases hc : P ≤ j
  · obtain ⟨t, ht⟩ : ∃ t : Nat, j = P + t := ⟨(j - P).toNat, by omega⟩
    have eu : (k : Rat) * p2 j = ((k * 2 ^ t : Nat) : Rat) * p2 P := by
      rw [ht, p2_add, Rat.natCast_mul, ← p2_nat]; grind
    rw [eu, hval]
    generalize k * 2 ^ t = N
    have hpp : 0 < p2 P * p2 P := Rat.mul_pos hpos hpos
    constructor
    · intro h
      have h2 : (n : Rat) ≤ ((N * N : Nat) : Rat) := by
        refine Rat.le_of_mul_le_mul_right (c := p2 P * p2 P) ?_ hpp
        rw [Rat.natCast_mul]; grind
      have h3 := Rat.natCast_le_natCast.1 h2
      have h4 : 2 * w + b ≤ 2 * N := by
        by_cases hwN : w < N
        · omega
        · have h5 : N * N ≤ w * w := Nat.mul_le_mul (by omega) (by omega)
          have h6 : w * w = n := by omega
          have h7 := hb0 h6
          have h8 : w ≤ N := by
            refine Nat.le_of_not_lt fun h9 => ?_
            have : N * N < w * w := Nat.mul_lt_mul'' h9 h9
            omega
          omega
      have h5 := Rat.natCast_le_natCast.2 h4
      have h6 := Rat.mul_le_mul_of_nonneg_right h5 (Rat.le_of_lt (p2_pos (P - 1)))
      rw [hP1]
      have e : ((2 * N : Nat) : Rat) = 2 * (N : Rat) := by rw [Rat.natCast_mul]; rfl
      rw [e] at h6
      grind
    · intro h
      have h2 : ((N * N : Nat) : Rat) ≤ (n : Rat) := by
        refine Rat.le_of_mul_le_mul_right (c := p2 P * p2 P) ?_ hpp
        rw [Rat.natCast_mul]; grind
      have h3 := Rat.natCast_le_natCast.1 h2
      have h4 : N ≤ w := by
        refine Nat.le_of_not_lt fun h9 => ?_
        have : (w + 1) * (w + 1) ≤ N * N := Nat.mul_le_mul (by omega) (by omega)
        omega
      have h5 : ((2 * N : Nat) : Rat) ≤ ((2 * w + b : Nat) : Rat) := Rat.natCast_le_natCast.2 (by omega)
      have h6 := Rat.mul_le_mul_of_nonneg_right h5 (Rat.le_of_lt (p2_pos (P - 1)))
      rw [hP1]
      have e : ((2 * N : Nat) : Rat) = 2 * (N : Rat) := by rw [Rat.natCast_mul]; rfl
      rw [e] at h6
      grind
  · -- u is small
    have h5 : (k : Rat) * p2 j < p2 (P + f.fractionBits) := by
      have h6 : (k : Rat) < ((2 * f.binade : Nat) : Rat) := Rat.natCast_lt_natCast.2 hk
      have h7 := Rat.mul_lt_mul_of_pos_right h6 (p2_pos j)
      have h8 : ((2 * f.binade : Nat) : Rat) * p2 j = p2 (j + f.fractionBits + 1) := by
        rw [Rat.natCast_mul, binade_p2, p2_add, p2_add, p2_one]
        have : ((2 : Nat) : Rat) = 2 := rfl
        rw [this]; grind
      rw [h8] at h7
      have h9 : p2 (j + f.fractionBits + 1) ≤ p2 (P + f.fractionBits) := p2_le (by omega)
      grind
    have hwbig : p2 (P + f.fractionBits) ≤ (w : Rat) * p2 P := by
      have h6 : ((2 ^ (f.fractionBits + 2) : Nat) : Rat) ≤ (w : Rat) := Rat.natCast_le_natCast.2 hlow
      have h7 := Rat.mul_le_mul_of_nonneg_right h6 (Rat.le_of_lt hpos)
      rw [← p2_nat, ← p2_add] at h7
      exact Rat.le_trans (p2_le (by omega)) h7
    constructor
    · intro h
      exfalso
      have h1 : (w : Rat) * p2 P * ((w : Rat) * p2 P) ≤ (k : Rat) * p2 j * ((k : Rat) * p2 j) := by
        refine Rat.le_trans ?_ h
        rw [hval]
        have h2 : ((w * w : Nat) : Rat) ≤ (n : Rat) := Rat.natCast_le_natCast.2 hspec.1
        have h3 := Rat.mul_le_mul_of_nonneg_right h2 (Rat.le_of_lt (Rat.mul_pos hpos hpos))
        rw [Rat.natCast_mul] at h3
        grind
      have := le_of_sq hu0 h1
      grind
    · intro _
      have h5 : ((2 * w : Nat) : Rat) ≤ ((2 * w + b : Nat) : Rat) := Rat.natCast_le_natCast.2 (by omega)
      have h6 := Rat.mul_le_mul_of_nonneg_right h5 (Rat.le_of_lt (p2_pos (P - 1)))
      have e : ((2 * w : Nat) : Rat) = 2 * (w : Rat) := by rw [Rat.natCast_mul]; rfl
      rw [e] at h6
      rw [hP1] at hwbig
      grind

theorem sqrt_fin {f : Format} (h : 2 ≤ f.exponentBits) {x : Nat} {a u : Rat} (hx : Fin f x a) (ha : 0 ≤ a) (hu : Rep f u) (ht : u < p2 (top f)) (hv : a ≤ u * u) :
    ∃ r c, f.sqrt x = some r ∧ Fin f r c ∧ 0 ≤ c ∧ ∀ u, Rep f u → (a ≤ u * u → c ≤ u) ∧ (u * u ≤ a → u ≤ c) := by
  obtain ⟨s, m, i, hx, rfl⟩ := hx
  by_cases hm : m = 0
  · subst hm
    have e0 : num s 0 i = 0 := by cases s <;> simp [num]
    have hz : (((0 : Nat) : Rat) * p2 i) ≤ u := by have := hu.nonneg; simpa using this
    obtain ⟨c, h1, h2⟩ := nearest_fin h s 0 i hu ht hz
    rw [e0] at h2
    have hc := h2.exact (Rep.zero f)
    subst hc
    refine ⟨_, 0, ?_, h1, Rat.le_refl, fun u hu => ⟨fun _ => hu.nonneg, fun hq => ?_⟩⟩
    · unfold Format.sqrt
      rw [hx]
      simp [Datum.root, Format.write]
    · rw [e0] at hq
      exact le_of_sq Rat.le_refl (by grind)
  · have hs : s = false := by
      cases s with
      | false => rfl
      | true =>
        rw [num_true] at ha
        have h1 : 0 < (m : Rat) := Rat.natCast_pos.2 (by omega)
        have h2 := Rat.mul_pos h1 (p2_pos i)
        grind
    subst hs
    rw [num_false] at hv ⊢
    obtain ⟨more, hmore⟩ : ∃ more : Nat, more = 2 * (f.fractionBits + 2) - m.log2 + ((i - ((2 * (f.fractionBits + 2) - m.log2 : Nat) : Int)) % 2).toNat := ⟨_, rfl⟩
    have heven : i - more = 2 * ((i - more) / 2) := by omega
    obtain ⟨w, b, hw, hb, hbet⟩ := root_between (f := f) hm (more := more) (by omega) heven
    have hbu := (hbet u hu).1 hv
    obtain ⟨c, h1, h2⟩ := nearest_fin h false (2 * w + b) ((i - more) / 2 - 1) hu ht hbu
    rw [num_false] at h2
    refine ⟨_, c, ?_, h1, ?_, fun u hu => ⟨fun hq => h2.above u hu ((hbet u hu).1 hq), fun hq => h2.below u hu ((hbet u hu).2 hq)⟩⟩
    · unfold Format.sqrt
      rw [hx]
      unfold Datum.root
      simp only [if_neg hm, Bool.false_eq_true, if_false, ← hmore, ← hw, ← hb, Option.map_some, Format.write]
    · exact h2.below 0 (Rep.zero f) (Rat.mul_nonneg Rat.natCast_nonneg (Rat.le_of_lt (p2_pos _)))

/-- a finite number that is not too great is no infinity of the format -/
theorem not_infinity {f : Format} {x : Nat} {v : Rat} (h : Fin f x v) : (f.read x).isInfinity = false := by
  obtain ⟨s, m, i, hx, _⟩ := h
  rw [hx]; rfl

theorem double_of_single {j : Int} {k : Nat} (hk : k < 2 * single.binade) (hj : single.leastPlace ≤ j) : Rep double ((k : Rat) * p2 j) := by
  refine ⟨k, j, rfl, ?_, ?_⟩
  · have : single.binade ≤ double.binade := by decide
    omega
  · have : double.leastPlace ≤ single.leastPlace := by decide
    omega

/-! ### what a word can stand for -/
theorem read_bounds {f : Format} (h : 2 ≤ f.exponentBits) {x : Nat} {s : Bool} {m : Nat} {e : Int} (hx : f.read x = .number s m e) :
    m < 2 * f.binade ∧ f.leastPlace ≤ e ∧ (m : Rat) * p2 e < p2 (top f) := by
  have hb : 0 < f.binade := Nat.two_pow_pos _
  have h4 : 4 ≤ 2 ^ f.exponentBits := Nat.pow_le_pow_right (n := 2) (by decide) h
  have htop : ∀ (k : Nat) (j : Int), k < 2 * f.binade → j + 1 + f.fractionBits ≤ top f → (k : Rat) * p2 j < p2 (top f) := by
    intro k j hk hj
    have h6 : (k : Rat) < ((2 * f.binade : Nat) : Rat) := Rat.natCast_lt_natCast.2 hk
    have h7 := Rat.mul_lt_mul_of_pos_right h6 (p2_pos j)
    have h8 : ((2 * f.binade : Nat) : Rat) * p2 j = p2 (j + 1 + f.fractionBits) := by
      rw [Rat.natCast_mul, binade_p2, p2_add, p2_add, p2_one]
      have : ((2 : Nat) : Rat) = 2 := rfl
      rw [this]; grind
    rw [h8] at h7
    have h9 := p2_le hj
    grind
  have e2 : (2 ^ f.exponentBits - 2 : Int) = ((2 ^ f.exponentBits - 2 : Nat) : Int) := by
    have : ((2 ^ f.exponentBits : Nat) : Int) = 2 ^ f.exponentBits := by simp
    omega
  unfold Format.read at hx
  simp only at hx
  generalize hr : x % f.signWeight = rung at hx
  by_cases h1 : rung < f.binade
  · rw [if_pos h1] at hx
    cases hx
    refine ⟨by omega, Int.le_refl _, htop _ _ (by omega) ?_⟩
    unfold top; rw [e2]; omega
  · rw [if_neg h1] at hx
    by_cases h2 : rung < f.infRung
    · rw [if_pos h2] at hx
      cases hx
      have hm := Nat.mod_lt rung hb
      have hq : rung / f.binade ≤ 2 ^ f.exponentBits - 2 := by
        have h3 : rung / f.binade < 2 ^ f.exponentBits - 1 := Nat.div_lt_of_lt_mul (by rw [Nat.mul_comm]; exact h2)
        omega
      have hq1 : 1 ≤ rung / f.binade := (Nat.one_le_div_iff hb).2 (by omega)
      refine ⟨by omega, by omega, htop _ _ (by omega) ?_⟩
      unfold top; rw [e2]; omega
    · rw [if_neg h2] at hx
      by_cases h3 : rung = f.infRung
      · rw [if_pos h3] at hx; cases hx
      · rw [if_neg h3] at hx; cases hx

theorem Fin.rep {f : Format} (h : 2 ≤ f.exponentBits) {x : Nat} {v : Rat} (hx : Fin f x v) : Rep f v.abs ∧ v.abs < p2 (top f) := by
  obtain ⟨s, m, e, hx, rfl⟩ := hx
  have := read_bounds h hx
  rw [num_neg_abs]
  exact ⟨⟨m, e, rfl, this.1, this.2.1⟩, this.2.2⟩

theorem Rep.widen {u : Rat} (h : Rep single u) : Rep double u := by
  obtain ⟨k, j, rfl, h1, h2⟩ := h
  exact double_of_single h1 h2

theorem top_lt : p2 (top single) < p2 (top double) := p2_lt (by decide)

theorem Rd.self_abs {f : Format} {v c : Rat} (h : Rd f v c) (hv : Rep f v.abs) : c = v := by
  by_cases h0 : 0 ≤ v
  · have e : v.abs = v := by unfold Rat.abs; grind
    rw [e] at hv; exact h.exact hv
  · have e : v.abs = -v := by unfold Rat.abs; grind
    rw [e] at hv; exact h.exactN hv

/-- every 32-bit number is a 64-bit one -/
theorem widen_fin {x : Nat} {v : Rat} (hx : Fin single x v) : Fin double (double.write (single.read x)) v := by
  have hr := hx.rep (by decide)
  obtain ⟨c, h1, h2⟩ := write_fin (f := double) (by decide) hx hr.1.widen (by have := top_lt; grind) Rat.le_refl
  have := h2.self_abs hr.1.widen
  subst this
  exact h1
end Go.Proofs.YtpmecojegehikaaGreatDoor.Fl
