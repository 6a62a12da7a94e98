/- The plain law of the vectors of small whole numbers: the outcomes of their float operations. -/
import Derived.Test.YtpmecojegehikaaGreatDoorU2
namespace Go.Proofs.YtpmecojegehikaaGreatDoor
open Go.RowKit

/-- The word x is the whole number a, and a is at most A in size. -/
structure Wh (x : Nat) (a : Int) (A : Nat) : Prop where
  whole : Fl.Whole Ieee.single x a
  le : a.natAbs ≤ A

theorem Wh.add {x y : Nat} {a b : Int} {A B : Nat} (hx : Wh x a A) (hy : Wh y b B) (h : A + B ≤ 16777215) : ∃ r, floatBits .add .f32 x y = some r ∧ Wh r (a + b) (A + B) := by
  have hl : (a + b).natAbs ≤ A + B := by have := hx.le; have := hy.le; omega
  obtain ⟨r, h1, h2⟩ := Fl.whole_add Fl.small_single hx.whole hy.whole (Nat.le_trans hl h)
  exact ⟨r, h1, h2, hl⟩
theorem Wh.sub {x y : Nat} {a b : Int} {A B : Nat} (hx : Wh x a A) (hy : Wh y b B) (h : A + B ≤ 16777215) : ∃ r, floatBits .sub .f32 x y = some r ∧ Wh r (a - b) (A + B) := by
  have hl : (a - b).natAbs ≤ A + B := by have := hx.le; have := hy.le; omega
  obtain ⟨r, h1, h2⟩ := Fl.whole_sub Fl.small_single hx.whole hy.whole (Nat.le_trans hl h)
  exact ⟨r, h1, h2, hl⟩
theorem Wh.mul {x y : Nat} {a b : Int} {A B : Nat} (hx : Wh x a A) (hy : Wh y b B) (h : A * B ≤ 16777215) : ∃ r, floatBits .mul .f32 x y = some r ∧ Wh r (a * b) (A * B) := by
  have hl : (a * b).natAbs ≤ A * B := by rw [Int.natAbs_mul]; exact Nat.mul_le_mul hx.le hy.le
  obtain ⟨r, h1, h2⟩ := Fl.whole_mul Fl.small_single hx.whole hy.whole (Nat.le_trans hl h)
  exact ⟨r, h1, h2, hl⟩
theorem Wh.eq {x y : Nat} {a b : Int} {A B : Nat} (hx : Wh x a A) (hy : Wh y b B) (h : a = b) : (FloatKind.f32.format.order x y == some .eq) = true := by
  subst h
  have := Fl.whole_eq hx.whole hy.whole
  rw [show FloatKind.f32.format.order x y = some .eq from this]; rfl
theorem Wh.ne {x y : Nat} {a b : Int} {A B : Nat} (hx : Wh x a A) (hy : Wh y b B) (h : a = b) : (FloatKind.f32.format.order x y != some .eq) = false := by
  subst h
  have := Fl.whole_eq hx.whole hy.whole
  rw [show FloatKind.f32.format.order x y = some .eq from this]; rfl

theorem wh_zero : Wh 0 0 0 := ⟨by have h := int_word 0 (by decide); rw [show floatOfInt .f32 0 = 0 by decide +kernel] at h; exact h, by decide⟩
theorem wh_one : Wh 1065353216 1 1 := ⟨by have h := int_word 1 (by decide); rw [show floatOfInt .f32 1 = 1065353216 by decide +kernel] at h; exact h, by decide⟩
theorem wh_two : Wh 1073741824 2 2 := ⟨by have h := int_word 2 (by decide); rw [show floatOfInt .f32 2 = 1073741824 by decide +kernel] at h; exact h, by decide⟩
theorem wh_minus : Wh 3212836864 (-1) 1 := ⟨by have h := int_word (-1) (by decide); rw [show floatOfInt .f32 (-1) = 3212836864 by decide +kernel] at h; exact h, by decide⟩

/-- a vector of three words, as a value -/
def vec (x y z : Nat) : Value := .agg #[.float .f32 x, .float .f32 y, .float .f32 z]

/-- three words that are whole numbers -/
structure Wv (x y z : Nat) (a b c : Int) (A : Nat) : Prop where
  x : Wh x a A
  y : Wh y b A
  z : Wh z c A

/-- the call of f on these arguments returns v, and makes only new blocks -/
@[reducible] def Gives (f : Nat) (args : Array Value) (v : Value) : Prop := ∀ w : World, Calls Tryz.prog f args w fun e w' => e = .returned v ∧ Below w.heap.size w w'

section
variable {x y z x' y' z' : Nat} {a b c a' b' c' : Int} {A B : Nat}
theorem Wv.cross (h : Wv x y z a b c A) (k : Wv x' y' z' a' b' c' B) (hb : A * B + A * B ≤ 16777215) :
    ∃ p q r, Gives 6 #[vec x y z, vec x' y' z'] (vec p q r) ∧ Wv p q r (b * c' - c * b') (c * a' - a * c') (a * b' - b * a') (A * B + A * B) := by
  obtain ⟨p12, e12, h12⟩ := h.y.mul k.z (by omega)
  obtain ⟨p21, e21, h21⟩ := h.z.mul k.y (by omega)
  obtain ⟨p20, e20, h20⟩ := h.z.mul k.x (by omega)
  obtain ⟨p02, e02, h02⟩ := h.x.mul k.z (by omega)
  obtain ⟨p01, e01, h01⟩ := h.x.mul k.y (by omega)
  obtain ⟨p10, e10, h10⟩ := h.y.mul k.x (by omega)
  obtain ⟨p, e0, h0⟩ := h12.sub h21 hb
  obtain ⟨q, e1, h1⟩ := h20.sub h02 hb
  obtain ⟨r, e2, h2⟩ := h01.sub h10 hb
  exact ⟨p, q, r, fun w => cross_any _ _ _ _ _ _ _ _ _ _ _ _ _ _ _ w e12 e21 e20 e02 e01 e10 e0 e1 e2, h0, h1, h2⟩
theorem Wv.add (h : Wv x y z a b c A) (k : Wv x' y' z' a' b' c' B) (hb : A + B ≤ 16777215) :
    ∃ p q r, Gives 7 #[vec x y z, vec x' y' z'] (vec p q r) ∧ Wv p q r (a + a') (b + b') (c + c') (A + B) := by
  obtain ⟨p, e0, h0⟩ := h.x.add k.x hb
  obtain ⟨q, e1, h1⟩ := h.y.add k.y hb
  obtain ⟨r, e2, h2⟩ := h.z.add k.z hb
  exact ⟨p, q, r, fun w => add_any _ _ _ _ _ _ _ _ _ w e0 e1 e2, h0, h1, h2⟩
theorem Wv.less (h : Wv x y z a b c A) (k : Wv x' y' z' a' b' c' B) (hb : A + B ≤ 16777215) :
    ∃ p q r, Gives 8 #[vec x y z, vec x' y' z'] (vec p q r) ∧ Wv p q r (a - a') (b - b') (c - c') (A + B) := by
  obtain ⟨p, e0, h0⟩ := h.x.sub k.x hb
  obtain ⟨q, e1, h1⟩ := h.y.sub k.y hb
  obtain ⟨r, e2, h2⟩ := h.z.sub k.z hb
  exact ⟨p, q, r, fun w => less_any _ _ _ _ _ _ _ _ _ w e0 e1 e2, h0, h1, h2⟩
theorem Wv.scale (h : Wv x y z a b c A) {t : Nat} {s : Int} {S : Nat} (k : Wh t s S) (hb : A * S ≤ 16777215) :
    ∃ p q r, Gives 9 #[vec x y z, .float .f32 t] (vec p q r) ∧ Wv p q r (a * s) (b * s) (c * s) (A * S) := by
  obtain ⟨p, e0, h0⟩ := h.x.mul k hb
  obtain ⟨q, e1, h1⟩ := h.y.mul k hb
  obtain ⟨r, e2, h2⟩ := h.z.mul k hb
  exact ⟨p, q, r, fun w => scale_any _ _ _ _ _ _ _ w e0 e1 e2, h0, h1, h2⟩
theorem Wv.eqs (h : Wv x y z a b c A) (k : Wv x' y' z' a' b' c' B) (e0 : a = a') (e1 : b = b') (e2 : c = c') :
    Gives 10 #[vec x y z, vec x' y' z'] (.bool true) := fun w => vequal_yes _ _ _ _ _ _ w (h.x.eq k.x e0) (h.y.eq k.y e1) (h.z.eq k.z e2)
theorem Wv.inner (h : Wv x y z a b c A) (k : Wv x' y' z' a' b' c' B) (hb : A * B + A * B + A * B ≤ 16777215) :
    ∃ r, Gives 11 #[vec x y z, vec x' y' z'] (.float .f32 r) ∧ Wh r (a * a' + b * b' + c * c') (A * B + A * B + A * B) := by
  obtain ⟨p, e0, h0⟩ := h.x.mul k.x (by omega)
  obtain ⟨q, e1, h1⟩ := h.y.mul k.y (by omega)
  obtain ⟨s, e2, h2⟩ := h.z.mul k.z (by omega)
  obtain ⟨u, e3, h3⟩ := h0.add h1 (by omega)
  obtain ⟨r, e4, h4⟩ := h3.add h2 (by omega)
  exact ⟨r, fun w => inner_any _ _ _ _ _ _ _ _ _ _ _ w e0 e1 e2 e3 e4, h4⟩

theorem root_facts {r : Nat} {n : Int} (h : Fl.Whole Ieee.single r n) (h0 : 0 ≤ n) (h1 : n ≤ 16777215) :
    ∃ y z t, floatToFloatBits .f32 r .f64 = some y ∧ FloatKind.f64.format.sqrt y = some z ∧ floatToFloatBits .f64 z .f32 = some t ∧ t < 4294967296 := by
  have hw := Fl.widen_fin h
  have hi := Fl.not_infinity hw
  obtain ⟨s, m, e, hd, _⟩ := h
  have e4 : Fl.p2 12 = ((4096 : Nat) : Rat) := Fl.p2_nat 12
  have hrd : Fl.Rep Ieee.double ((4096 : Nat) : Rat) := Fl.Rep.nat (by decide) 4096 (by decide)
  have hrs : Fl.Rep Ieee.single ((4096 : Nat) : Rat) := Fl.Rep.nat (by decide) 4096 (by decide)
  have htd : ((4096 : Nat) : Rat) < Fl.p2 (Fl.top Ieee.double) := by rw [← e4]; exact Fl.p2_lt (by decide)
  have hts : ((4096 : Nat) : Rat) < Fl.p2 (Fl.top Ieee.single) := by rw [← e4]; exact Fl.p2_lt (by decide)
  have hn0 : (0 : Rat) ≤ (n : Rat) := by exact_mod_cast h0
  have hnu : (n : Rat) ≤ ((4096 : Nat) : Rat) * ((4096 : Nat) : Rat) := by
    have : (n : Rat) ≤ ((16777215 : Int) : Rat) := Rat.intCast_le_intCast.2 h1
    have e : ((4096 : Nat) : Rat) * ((4096 : Nat) : Rat) = 16777216 := by decide +kernel
    have e' : ((16777215 : Int) : Rat) = 16777215 := by decide +kernel
    rw [e]; rw [e'] at this; grind
  obtain ⟨z, c, hz, hzf, hc0, hc⟩ := Fl.sqrt_fin (f := Ieee.double) (by decide) hw hn0 hrd htd hnu
  have hcu := (hc _ hrd).1 hnu
  have hca : c.abs ≤ ((4096 : Nat) : Rat) := by rw [Rat.abs_of_nonneg hc0]; exact hcu
  obtain ⟨d, hd2, _⟩ := Fl.write_fin (f := Ieee.single) (by decide) hzf hrs hts hca
  have hj := Fl.not_infinity hd2
  obtain ⟨s2, m2, e2, hr2, _⟩ := hzf
  refine ⟨_, z, _, ?_, hz, ?_, Ieee.single.write_lt (Ieee.double.read z)⟩
  · unfold floatToFloatBits
    rw [if_neg (by decide), show FloatKind.f32.decode r = Ieee.single.read r from rfl, hd]
    rw [hd] at hi
    have e1 : FloatKind.f64.decode (FloatKind.f64.encode (.number s m e)) = Ieee.double.read (Ieee.double.write (.number s m e)) := rfl
    simp only [e1, hi]
    rfl
  · unfold floatToFloatBits
    rw [if_neg (by decide), show FloatKind.f64.decode z = Ieee.double.read z from rfl, hr2]
    rw [hr2] at hj
    have e1 : FloatKind.f32.decode (FloatKind.f32.encode (.number s2 m2 e2)) = Ieee.single.read (Ieee.single.write (.number s2 m2 e2)) := rfl
    simp only [e1, hj]
    rfl

theorem Wv.square (h : Wv x y z a b c A) (hb : A * A + A * A + A * A ≤ 16777215) :
    ∃ r t, Gives 11 #[vec x y z, vec x y z] (.float .f32 r) ∧ Gives 12 #[vec x y z] (.float .f32 r) ∧ Gives 14 #[vec x y z] (.float .f32 t) ∧ Gives 15 #[.float .f32 r] (.float .f32 t) ∧
      Gives 13 #[.float .f32 t, .float .f32 t] (.bool true) ∧ (FloatKind.f32.format.order r r != some .eq) = false := by
  obtain ⟨p, e0, h0⟩ := h.x.mul h.x (by omega)
  obtain ⟨q, e1, h1⟩ := h.y.mul h.y (by omega)
  obtain ⟨s, e2, h2⟩ := h.z.mul h.z (by omega)
  obtain ⟨u, e3, h3⟩ := h0.add h1 (by omega)
  obtain ⟨r, e4, h4⟩ := h3.add h2 (by omega)
  have hs : ∀ i : Int, 0 ≤ i * i := fun i => by
    rcases Int.le_total 0 i with h | h
    · exact Int.mul_nonneg h h
    · exact Int.mul_nonneg_of_nonpos_of_nonpos h h
  obtain ⟨w1, w2, t, r1, r2, r3, r4⟩ := root_facts h4.whole (by have := hs a; have := hs b; have := hs c; omega) (by have := h4.le; omega)
  exact ⟨r, t, fun w => inner_any _ _ _ _ _ _ _ _ _ _ _ w e0 e1 e2 e3 e4, fun w => square_any _ _ _ _ _ _ _ _ w e0 e1 e2 e3 e4, fun w => size_any _ _ _ _ _ _ _ _ _ _ _ w e0 e1 e2 e3 e4 r1 r2 r3,
    fun w => (specroot_any _ _ _ _ w r1 r2 r3).mono fun _ _ ⟨q, k⟩ => ⟨q, k ▸ Below.refl _ _⟩, fun w => (samenum_any t w r4).mono fun _ _ ⟨q, k⟩ => ⟨q, k ▸ Below.refl _ _⟩, h4.ne h4 rfl⟩

theorem Wv.between (h : Wv x y z a b c A) (k : Wv x' y' z' a' b' c' B) {t : Nat} {s : Int} {S : Nat} (ht : Wh t s S) (hb : (B + A) * S ≤ 16777215) (hb2 : A + (B + A) * S ≤ 16777215) (hb3 : B + A ≤ 16777215) :
    ∃ p q r, Gives 16 #[vec x y z, vec x' y' z', .float .f32 t] (vec p q r) ∧ Wv p q r (a + (a' - a) * s) (b + (b' - b) * s) (c + (c' - c) * s) (A + (B + A) * S) := by
  obtain ⟨d0, e0, h0⟩ := k.x.sub h.x hb3
  obtain ⟨d1, e1, h1⟩ := k.y.sub h.y hb3
  obtain ⟨d2, e2, h2⟩ := k.z.sub h.z hb3
  obtain ⟨m0, f0, g0⟩ := h0.mul ht hb
  obtain ⟨m1, f1, g1⟩ := h1.mul ht hb
  obtain ⟨m2, f2, g2⟩ := h2.mul ht hb
  obtain ⟨p, l0, i0⟩ := h.x.add g0 hb2
  obtain ⟨q, l1, i1⟩ := h.y.add g1 hb2
  obtain ⟨r, l2, i2⟩ := h.z.add g2 hb2
  exact ⟨p, q, r, fun w => between_any _ _ _ _ _ _ _ _ _ _ _ _ _ _ _ _ w e0 e1 e2 f0 f1 f2 l0 l1 l2, i0, i1, i2⟩
end

/-- What the law of the vectors reckons of two vectors. -/
structure Facts (a b c d s t u n f r0 r1 : Value) (i j q z : Nat) : Prop where
  h1 : Gives 6 #[a, b] c
  h2 : Gives 6 #[b, a] d
  h3 : Gives 8 #[a, b] s
  h4 : Gives 7 #[b, s] t
  h5 : Gives 9 #[a, .float .f32 1073741824] u
  h6 : Gives 10 #[t, a] (.bool true)
  h7 : Gives 11 #[c, a] (.float .f32 i)
  h8 : Gives 11 #[c, b] (.float .f32 j)
  h9 : Gives 9 #[d, .float .f32 3212836864] n
  h10 : Gives 10 #[c, n] (.bool true)
  h11 : Gives 7 #[a, a] f
  h12 : Gives 10 #[u, f] (.bool true)
  h13 : Gives 11 #[a, a] (.float .f32 q)
  h14 : Gives 12 #[a] (.float .f32 q)
  h15 : Gives 14 #[a] (.float .f32 z)
  h16 : Gives 15 #[.float .f32 q] (.float .f32 z)
  h17 : Gives 13 #[.float .f32 z, .float .f32 z] (.bool true)
  h18 : Gives 16 #[a, b, .float .f32 0] r0
  h19 : Gives 10 #[r0, a] (.bool true)
  h20 : Gives 16 #[a, b, .float .f32 1065353216] r1
  h21 : Gives 10 #[r1, b] (.bool true)
  e1 : (FloatKind.f32.format.order i 0 != some .eq) = false
  e2 : (FloatKind.f32.format.order j 0 != some .eq) = false
  e3 : (FloatKind.f32.format.order q q != some .eq) = false

def Isv (v : Value) : Prop := ∃ x y z, v = vec x y z

theorem facts {x y z x' y' z' : Nat} {a b c a' b' c' : Int} (h : Wv x y z a b c 50) (k : Wv x' y' z' a' b' c' 50) :
    ∃ C D S T U N F R0 R1 i j q v, Isv C ∧ Isv D ∧ Isv S ∧ Isv T ∧ Isv U ∧ Isv N ∧ Isv F ∧ Isv R0 ∧ Isv R1 ∧ Facts (vec x y z) (vec x' y' z') C D S T U N F R0 R1 i j q v := by
  obtain ⟨c0, c1, c2, g1, w1⟩ := h.cross k (by decide)
  obtain ⟨d0, d1, d2, g2, w2⟩ := k.cross h (by decide)
  obtain ⟨s0, s1, s2, g3, w3⟩ := h.less k (by decide)
  obtain ⟨t0, t1, t2, g4, w4⟩ := k.add w3 (by decide)
  obtain ⟨u0, u1, u2, g5, w5⟩ := h.scale wh_two (by decide)
  obtain ⟨i, g7, w7⟩ := w1.inner h (by decide)
  obtain ⟨j, g8, w8⟩ := w1.inner k (by decide)
  obtain ⟨n0, n1, n2, g9, w9⟩ := w2.scale wh_minus (by decide)
  obtain ⟨f0, f1, f2, g11, w11⟩ := h.add h (by decide)
  obtain ⟨q, v, g13, g14, g15, g16, g17, e3⟩ := h.square (by decide)
  obtain ⟨p0, p1, p2, g18, w18⟩ := h.between k wh_zero (by decide) (by decide) (by decide)
  obtain ⟨o0, o1, o2, g20, w20⟩ := h.between k wh_one (by decide) (by decide) (by decide)
  exact ⟨_, _, _, _, _, _, _, _, _, i, j, q, v, ⟨c0, c1, c2, rfl⟩, ⟨d0, d1, d2, rfl⟩, ⟨s0, s1, s2, rfl⟩, ⟨t0, t1, t2, rfl⟩, ⟨u0, u1, u2, rfl⟩, ⟨n0, n1, n2, rfl⟩, ⟨f0, f1, f2, rfl⟩, ⟨p0, p1, p2, rfl⟩, ⟨o0, o1, o2, rfl⟩,
    { h1 := g1, h2 := g2, h3 := g3, h4 := g4, h5 := g5, h6 := w4.eqs h (by omega) (by omega) (by omega), h7 := g7, h8 := g8, h9 := g9
      h10 := w1.eqs w9 (by grind) (by grind) (by grind)
      h11 := g11, h12 := w5.eqs w11 (by omega) (by omega) (by omega), h13 := g13, h14 := g14, h15 := g15, h16 := g16, h17 := g17
      h18 := g18, h19 := w18.eqs h (by grind) (by grind) (by grind), h20 := g20, h21 := w20.eqs k (by grind) (by grind) (by grind)
      e1 := w7.ne wh_zero (by grind), e2 := w8.ne wh_zero (by grind), e3 := e3 }⟩
end Go.Proofs.YtpmecojegehikaaGreatDoor
