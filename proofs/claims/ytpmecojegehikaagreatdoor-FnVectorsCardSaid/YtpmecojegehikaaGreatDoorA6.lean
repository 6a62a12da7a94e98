/- The walks of the draws of vectors. -/
import Derived.Test.YtpmecojegehikaaGreatDoorA5
namespace Go.Proofs.YtpmecojegehikaaGreatDoor
open Go.RowKit

set_option maxHeartbeats 400000 in
theorem src_new (a : Option Addr) (n c : Nat) (w : World) :
    Calls Tryz.prog 21 #[.slice a n c] w fun e w' => e = .returned (.pointer (some ⟨w.heap.size, 0, none⟩)) ∧ w' = w.alloc (.cells #[.slice a n c, .int .i64 0, .int .u64 0] 53) := by
  go_enter Tryz.func21, Tryz.ntmps21
  go_wp2
  go_ret
  exact ⟨rfl, rfl⟩

theorem alloc_cell (w : World) (xs : Array Value) (T : TypeId) (j : Nat) : (w.alloc (.cells xs T)).cell? ⟨w.heap.size, j, none⟩ = xs[j]? := by
  unfold World.cell?
  rw [show (w.alloc (.cells xs T)).heap = w.heap.push (.cells xs T) from rfl, Array.getElem?_push_size]
  rfl
theorem alloc_frozen (w : World) (xs : Array Value) (T : TypeId) (j : Nat) : (w.alloc (.cells xs T)).frozen? ⟨w.heap.size, j, none⟩ = false := by
  unfold World.frozen?
  rw [show (w.alloc (.cells xs T)).heap = w.heap.push (.cells xs T) from rfl, Array.getElem?_push_size]
  simp

theorem src_of_new (a : Option Addr) (n c : Nat) (w : World) : Src (w.alloc (.cells #[.slice a n c, .int .i64 0, .int .u64 0] 53)) w.heap.size a n c 0 0 :=
  ⟨alloc_cell w _ _ 0, alloc_cell w _ _ 1, alloc_cell w _ _ 2, alloc_frozen w _ _ 1, alloc_frozen w _ _ 2⟩

/-- what the draw of a vector leaves -/
def VecPost (B : Nat) (a : Option Addr) (n c : Nat) (w : World) (e : Ending) (w' : World) : Prop :=
  ∃ x y z i' s', x < 4294967296 ∧ y < 4294967296 ∧ z < 4294967296 ∧ e = .returned (.agg #[.float .f32 x, .float .f32 y, .float .f32 z]) ∧ Src w' B a n c i' s' ∧ Keeps B w w'

/-- a variable of three cells -/
structure Three (w : World) (V : Nat) (x y z : Value) : Prop where
  c0 : w.cell? ⟨V, 0, none⟩ = some x
  c1 : w.cell? ⟨V, 1, none⟩ = some y
  c2 : w.cell? ⟨V, 2, none⟩ = some z
  f0 : w.frozen? ⟨V, 0, none⟩ = false
  f1 : w.frozen? ⟨V, 1, none⟩ = false
  f2 : w.frozen? ⟨V, 2, none⟩ = false
theorem Three.new (w : World) (x y z : Value) (T : TypeId) : Three (w.alloc (.cells #[x, y, z] T)) w.heap.size x y z :=
  ⟨alloc_cell w _ _ 0, alloc_cell w _ _ 1, alloc_cell w _ _ 2, alloc_frozen w _ _ 0, alloc_frozen w _ _ 1, alloc_frozen w _ _ 2⟩
theorem Three.lt {w : World} {V : Nat} {x y z : Value} (h : Three w V x y z) : V < w.heap.size := World.block_lt_of_cell? w ⟨V, 0, none⟩ h.c0
theorem Three.keeps {w w' : World} {V B : Nat} {x y z : Value} (h : Three w V x y z) (k : Keeps B w w') (hB : V ≠ B) : Three w' V x y z :=
  ⟨by rw [k.cell h.lt hB]; exact h.c0, by rw [k.cell h.lt hB]; exact h.c1, by rw [k.cell h.lt hB]; exact h.c2,
   by rw [k.frozen h.lt hB]; exact h.f0, by rw [k.frozen h.lt hB]; exact h.f1, by rw [k.frozen h.lt hB]; exact h.f2⟩

theorem Three.set1 {w : World} {V : Nat} {x y z : Value} (h : Three w V x y z) (u : Value) : Three (w.setCell ⟨V, 1, none⟩ u) V x u z :=
  ⟨by rw [World.cell?_setCell_other _ _ _ _ (by simp)]; exact h.c0, World.cell?_setCell_same _ _ _ h.c1, by rw [World.cell?_setCell_other _ _ _ _ (by simp)]; exact h.c2,
   by rw [World.frozen?_setCell]; exact h.f0, by rw [World.frozen?_setCell]; exact h.f1, by rw [World.frozen?_setCell]; exact h.f2⟩
theorem Three.set2 {w : World} {V : Nat} {x y z : Value} (h : Three w V x y z) (u : Value) : Three (w.setCell ⟨V, 2, none⟩ u) V x y u :=
  ⟨by rw [World.cell?_setCell_other _ _ _ _ (by simp)]; exact h.c0, by rw [World.cell?_setCell_other _ _ _ _ (by simp)]; exact h.c1, World.cell?_setCell_same _ _ _ h.c2,
   by rw [World.frozen?_setCell]; exact h.f0, by rw [World.frozen?_setCell]; exact h.f1, by rw [World.frozen?_setCell]; exact h.f2⟩
theorem Three.set0 {w : World} {V : Nat} {x y z : Value} (h : Three w V x y z) (u : Value) : Three (w.setCell ⟨V, 0, none⟩ u) V u y z :=
  ⟨World.cell?_setCell_same _ _ _ h.c0, by rw [World.cell?_setCell_other _ _ _ _ (by simp)]; exact h.c1, by rw [World.cell?_setCell_other _ _ _ _ (by simp)]; exact h.c2,
   by rw [World.frozen?_setCell]; exact h.f0, by rw [World.frozen?_setCell]; exact h.f1, by rw [World.frozen?_setCell]; exact h.f2⟩
theorem Three.setAll {w : World} {V : Nat} {x y z : Value} (h : Three w V x y z) (a b c : Value) : Three (((w.setCell ⟨V, 0, none⟩ a).setCell ⟨V, 1, none⟩ b).setCell ⟨V, 2, none⟩ c) V a b c :=
  ((h.set0 a).set1 b).set2 c
theorem Three.far {w : World} {R : Nat} {x y z : Value} (h : Three w R x y z) {p : Addr} (hp : p.block ≠ R) (u : Value) : Three (w.setCell p u) R x y z :=
  ⟨by rw [World.cell?_setCell_far _ _ _ _ (by exact hp)]; exact h.c0, by rw [World.cell?_setCell_far _ _ _ _ (by exact hp)]; exact h.c1, by rw [World.cell?_setCell_far _ _ _ _ (by exact hp)]; exact h.c2,
   by rw [World.frozen?_setCell]; exact h.f0, by rw [World.frozen?_setCell]; exact h.f1, by rw [World.frozen?_setCell]; exact h.f2⟩
theorem Three.alloc {w : World} {R : Nat} {x y z : Value} (h : Three w R x y z) (o : Obj) : Three (w.alloc o) R x y z :=
  have e := Below.heap_alloc w o R h.lt
  ⟨by rw [World.cell?_of_block (w := w) (a := ⟨R, 0, none⟩) e]; exact h.c0, by rw [World.cell?_of_block (w := w) (a := ⟨R, 1, none⟩) e]; exact h.c1, by rw [World.cell?_of_block (w := w) (a := ⟨R, 2, none⟩) e]; exact h.c2,
   by rw [World.frozen?_of_block (w := w) (a := ⟨R, 0, none⟩) e]; exact h.f0, by rw [World.frozen?_of_block (w := w) (a := ⟨R, 1, none⟩) e]; exact h.f1, by rw [World.frozen?_of_block (w := w) (a := ⟨R, 2, none⟩) e]; exact h.f2⟩
theorem Src.far {w : World} {B : Nat} {a : Option Addr} {n c : Nat} {i s : Int} (h : Src w B a n c i s) {p : Addr} (hp : p.block ≠ B) (u : Value) : Src (w.setCell p u) B a n c i s :=
  ⟨by rw [World.cell?_setCell_far _ _ _ _ (by exact hp)]; exact h.code, by rw [World.cell?_setCell_far _ _ _ _ (by exact hp)]; exact h.at_, by rw [World.cell?_setCell_far _ _ _ _ (by exact hp)]; exact h.seed,
   by rw [World.frozen?_setCell]; exact h.f1, by rw [World.frozen?_setCell]; exact h.f2⟩
theorem Keeps.setCell {B : Nat} {a w : World} (h : Keeps B a w) {p : Addr} (hp : a.heap.size ≤ p.block) (u : Value) : Keeps B a (w.setCell p u) :=
  ⟨h.os, h.tape, h.output, by have := h.size; simpa [World.setCell] using this, fun k hk hb => by rw [Below.heap_setCell _ _ _ _ (by omega)]; exact h.block k hk hb⟩
theorem Keeps.alloc2 {B : Nat} {a w : World} (h : Keeps B a w) (o : Obj) : Keeps B a (w.alloc o) := h.trans (Keeps.alloc B w o)

set_option maxHeartbeats 2000000 in
theorem vector_any (B : Nat) (a : Option Addr) (n c : Nat) (i s : Int) (w : World) (hsrc : Src w B a n c i s) (hb : Bytes w a n B)
    (h0 : 0 ≤ i) (hi : i ≤ 4611686018427360000) (hn : (n : Int) ≤ 4611686018427387904) :
    Calls Tryz.prog 26 #[.pointer (some ⟨B, 0, none⟩)] w (VecPost B a n c w) := by
  have HS := Lib.hid hsrc
  have HB := Lib.hid hb
  clear hsrc hb
  go_enter Tryz.func26, Tryz.ntmps26
  go_wp2_with fail
  have HS0 := Lib.hid (HS.out.alloc HS.out.lt (.cells #[.float .f32 0, .float .f32 0, .float .f32 0] 26))
  have HB0 := Lib.hid (HB.out.keeps (Keeps.alloc B w (.cells #[.float .f32 0, .float .f32 0, .float .f32 0] 26)) (Nat.le_of_lt HS.out.lt))
  refine (one_any B a n c i s 10 _ HS0.out HB0.out h0 (by omega) hn (by omega) (by omega)).mono ?_
  rintro e w1 ⟨t, i1, s1, rfl, hs1, ho1, hi1, hi2⟩
  have HS1 := Lib.hid hs1
  have HB1 := Lib.hid (HB0.out.only ho1)
  have HR1 := Lib.hid ((Three.new w (.float .f32 0) (.float .f32 0) (.float .f32 0) 26).keeps ho1.keeps (Nat.ne_of_gt HS.out.lt))
  have HO1 := Lib.hid ((Keeps.alloc B w (.cells #[.float .f32 0, .float .f32 0, .float .f32 0] 26)).trans ho1.keeps)
  clear hs1 ho1
  go_wp2_with fail
  refine (small_any B a n c i1 s1 _ HS1.out HB1.out (by omega) (by omega) hn).mono ?_
  rintro e w2 ⟨x, i2, s2, x1, _, rfl, hs2, ho2, hi3, hi4⟩
  have HS2 := Lib.hid hs2
  have HB2 := Lib.hid (HB1.out.keeps ho2 (Nat.le_of_lt HS1.out.lt))
  have HR2 := Lib.hid (HR1.out.keeps ho2 (Nat.ne_of_gt HS.out.lt))
  have HO2 := Lib.hid (HO1.out.trans ho2)
  clear hs2 ho2
  go_wp2_with fail
  have hsz := Lib.hid (show w.heap.size < w2.heap.size from HR2.out.lt)
  have hBV := Lib.hid HS2.out.lt
  have HS2' := Lib.hid (HS2.out.alloc HS2.out.lt (.cells #[.float .f32 x, .float .f32 0, .float .f32 0] 26))
  have HB2' := Lib.hid (HB2.out.keeps (Keeps.alloc B w2 (.cells #[.float .f32 x, .float .f32 0, .float .f32 0] 26)) (Nat.le_of_lt HS2.out.lt))
  refine (small_any B a n c i2 s2 _ HS2'.out HB2'.out (by omega) (by omega) hn).mono ?_
  rintro e w3 ⟨y, i3, s3, y1, _, rfl, hs3, ho3, hi5, hi6⟩
  have HS3 := Lib.hid hs3
  have HB3 := Lib.hid (HB2'.out.keeps ho3 (Nat.le_of_lt HS2'.out.lt))
  have HR3 := Lib.hid ((HR2.out.alloc _).keeps ho3 (Nat.ne_of_gt HS.out.lt))
  have hV3 := (Three.new w2 (.float .f32 x) (.float .f32 0) (.float .f32 0) 26).keeps ho3 (Nat.ne_of_gt HS2.out.lt)
  have HV3 := Lib.hid hV3
  obtain ⟨_, g1, _, _, g4, _⟩ := hV3
  have HO3 := Lib.hid ((HO2.out.alloc2 _).trans ho3)
  clear hs3 ho3
  go_wp2_with fail
  have HS3' := Lib.hid (HS3.out.far (p := ⟨w2.heap.size, 1, none⟩) (Nat.ne_of_gt hBV.out) (.float .f32 y))
  have HB3' := Lib.hid (HB3.out.below (((Below.refl B w3).setCell (p := ⟨w2.heap.size, 1, none⟩) (Nat.le_of_lt hBV.out) (.float .f32 y))))
  refine (small_any B a n c i3 s3 _ HS3'.out HB3'.out (by omega) (by omega) hn).mono ?_
  rintro e w4 ⟨z, i4, s4, z1, _, rfl, hs4, ho4, hi7, hi8⟩
  have HS4 := Lib.hid hs4
  have HB4 := Lib.hid (HB3'.out.keeps ho4 (Nat.le_of_lt HS3'.out.lt))
  have HR4 := Lib.hid ((HR3.out.far (p := ⟨w2.heap.size, 1, none⟩) (Nat.ne_of_gt hsz.out) (.float .f32 y)).keeps ho4 (Nat.ne_of_gt HS.out.lt))
  have hV4 := (HV3.out.set1 (.float .f32 y)).keeps ho4 (Nat.ne_of_gt hBV.out)
  have HV4 := Lib.hid hV4
  have HO4 := Lib.hid ((HO3.out.setCell (p := ⟨w2.heap.size, 1, none⟩) (Nat.le_of_lt hsz.out) (.float .f32 y)).trans ho4)
  clear hs4 ho4 g1 g4
  obtain ⟨_, _, g2, _, _, g5⟩ := hV4
  cases t
  · have hR4 := HR4.out
    have hV4' := HV4.out.set2 (.float .f32 z)
    obtain ⟨q0, q1, q2, q3, q4, q5⟩ := HR4.out.far (p := ⟨w2.heap.size, 2, none⟩) (Nat.ne_of_gt hsz.out) (.float .f32 z)
    obtain ⟨p0, p1, p2, _, _, _⟩ := hV4'
    clear hR4
    go_wp2_with fail
    have hfin := (HR4.out.far (p := ⟨w2.heap.size, 2, none⟩) (Nat.ne_of_gt hsz.out) (.float .f32 z)).setAll (.float .f32 x) (.float .f32 y) (.float .f32 z)
    exact bodyPost_ret (v := .agg #[.float .f32 x, .float .f32 y, .float .f32 z]) (by simp [results, Tryz.results26, go_sem, hfin.c0, hfin.c1, hfin.c2]) rfl
      ⟨x, y, z, i4, s4, x1, y1, z1, rfl, (((HS4.out.far (p := ⟨w2.heap.size, 2, none⟩) (Nat.ne_of_gt hBV.out) _).far (p := ⟨w.heap.size, 0, none⟩) (Nat.ne_of_gt HS.out.lt) _).far (p := ⟨w.heap.size, 1, none⟩) (Nat.ne_of_gt HS.out.lt) _).far (p := ⟨w.heap.size, 2, none⟩) (Nat.ne_of_gt HS.out.lt) _,
        (((HO4.out.setCell (p := ⟨w2.heap.size, 2, none⟩) (Nat.le_of_lt hsz.out) _).setCell (p := ⟨w.heap.size, 0, none⟩) (Nat.le_refl _) _).setCell (p := ⟨w.heap.size, 1, none⟩) (Nat.le_refl _) _).setCell (p := ⟨w.heap.size, 2, none⟩) (Nat.le_refl _) _⟩
  · go_wp2_with fail
    have HS4' := Lib.hid (HS4.out.far (p := ⟨w2.heap.size, 2, none⟩) (Nat.ne_of_gt hBV.out) (.float .f32 z))
    have HB4' := Lib.hid (HB4.out.below (((Below.refl B w4).setCell (p := ⟨w2.heap.size, 2, none⟩) (Nat.le_of_lt hBV.out) (.float .f32 z))))
    refine (float_any B a n c i4 s4 _ HS4'.out HB4'.out (by omega) (by omega) hn).mono ?_
    rintro e w5 ⟨u, i5, s5, u1, _, rfl, hs5, ho5, hi9, hi10⟩
    have HS5 := Lib.hid hs5
    have HR5 := Lib.hid ((HR4.out.far (p := ⟨w2.heap.size, 2, none⟩) (Nat.ne_of_gt hsz.out) (.float .f32 z)).keeps ho5 (Nat.ne_of_gt HS.out.lt))
    have hV5 := (HV4.out.set2 (.float .f32 z)).keeps ho5 (Nat.ne_of_gt hBV.out)
    have HV5 := Lib.hid hV5
    have HO5 := Lib.hid ((HO4.out.setCell (p := ⟨w2.heap.size, 2, none⟩) (Nat.le_of_lt hsz.out) (.float .f32 z)).trans ho5)
    clear hs5 ho5 g2 g5
    obtain ⟨_, g1, _, _, g4, _⟩ := hV5
    obtain ⟨q0, q1, q2, q3, q4, q5⟩ := HR5.out.far (p := ⟨w2.heap.size, 1, none⟩) (Nat.ne_of_gt hsz.out) (.float .f32 u)
    obtain ⟨p0, p1, p2, _, _, _⟩ := HV5.out.set1 (.float .f32 u)
    go_wp2_with fail
    have hfin := (HR5.out.far (p := ⟨w2.heap.size, 1, none⟩) (Nat.ne_of_gt hsz.out) (.float .f32 u)).setAll (.float .f32 x) (.float .f32 u) (.float .f32 z)
    exact bodyPost_ret (v := .agg #[.float .f32 x, .float .f32 u, .float .f32 z]) (by simp [results, Tryz.results26, go_sem, hfin.c0, hfin.c1, hfin.c2]) rfl
      ⟨x, u, z, i5, s5, x1, u1, z1, rfl, (((HS5.out.far (p := ⟨w2.heap.size, 1, none⟩) (Nat.ne_of_gt hBV.out) _).far (p := ⟨w.heap.size, 0, none⟩) (Nat.ne_of_gt HS.out.lt) _).far (p := ⟨w.heap.size, 1, none⟩) (Nat.ne_of_gt HS.out.lt) _).far (p := ⟨w.heap.size, 2, none⟩) (Nat.ne_of_gt HS.out.lt) _,
        (((HO5.out.setCell (p := ⟨w2.heap.size, 1, none⟩) (Nat.le_of_lt hsz.out) _).setCell (p := ⟨w.heap.size, 0, none⟩) (Nat.le_refl _) _).setCell (p := ⟨w.heap.size, 1, none⟩) (Nat.le_refl _) _).setCell (p := ⟨w.heap.size, 2, none⟩) (Nat.le_refl _) _⟩

/-- what a drawn vector leaves: three words; nothing older has turned -/
def AnyVecPost (w : World) (e : Ending) (w' : World) : Prop :=
  ∃ x y z, x < 4294967296 ∧ y < 4294967296 ∧ z < 4294967296 ∧ e = .returned (.agg #[.float .f32 x, .float .f32 y, .float .f32 z]) ∧ Below w.heap.size w w'

theorem below_keeps {B : Nat} {W w w' : World} (h : Below W.heap.size W w) (k : Keeps B w w') (hB : W.heap.size ≤ B) : Below W.heap.size W w' :=
  h.trans (k.below hB h.size)

set_option maxHeartbeats 1000000 in
theorem anyvector_any (a : Option Addr) (n c : Nat) (w : World) (hb : Bytes w a n w.heap.size) (hn : (n : Int) ≤ 4611686018427387904) :
    Calls Tryz.prog 17 #[.slice a n c] w (AnyVecPost w) := by
  have HB := Lib.hid hb
  clear hb
  go_enter Tryz.func17, Tryz.ntmps17
  go_wp2_with fail
  refine (src_new a n c _).mono ?_
  rintro e w1 ⟨rfl, rfl⟩
  go_wp2_with fail
  have hs0 := src_of_new a n c (w.alloc (.cells #[.float .f32 0, .float .f32 0, .float .f32 0] 26))
  have e0 : (w.alloc (.cells #[.float .f32 0, .float .f32 0, .float .f32 0] 26)).heap.size = w.heap.size + 1 := by simp
  rw [e0] at hs0
  have HS0 := Lib.hid hs0
  have bl := Lib.hid (((Below.refl w.heap.size w).alloc (Nat.le_refl _) (.cells #[.float .f32 0, .float .f32 0, .float .f32 0] 26)).alloc (by simp) (.cells #[.slice a n c, .int .i64 0, .int .u64 0] 53))
  have HB0 : RowKit.Hid (Bytes ((w.alloc (.cells #[.float .f32 0, .float .f32 0, .float .f32 0] 26)).alloc (.cells #[.slice a n c, .int .i64 0, .int .u64 0] 53)) a n (w.heap.size + 1)) := by
    rcases HB.out.below bl.out with h | ⟨b, off, h1, h2, h3⟩
    · exact Or.inl h
    · exact Or.inr ⟨b, off, h1, by omega, h3⟩
  have HR0 := Lib.hid ((Three.new w (.float .f32 0) (.float .f32 0) (.float .f32 0) 26).alloc (.cells #[.slice a n c, .int .i64 0, .int .u64 0] 53))
  clear hs0 e0
  refine (vector_any _ a n c 0 0 _ HS0.out HB0.out (by omega) (by omega) hn).mono ?_
  rintro e w1 ⟨x, y, z, i', s', x1, y1, z1, rfl, _, hk⟩
  have HR1 := Lib.hid (HR0.out.keeps hk (by omega))
  have HW1 := Lib.hid (below_keeps bl.out hk (by omega))
  clear hk
  obtain ⟨q0, q1, q2, q3, q4, q5⟩ := HR1.out
  go_wp2_with fail
  have hfin := HR1.out.setAll (.float .f32 x) (.float .f32 y) (.float .f32 z)
  exact bodyPost_ret (v := .agg #[.float .f32 x, .float .f32 y, .float .f32 z]) (by simp [results, Tryz.results17, go_sem, hfin.c0, hfin.c1, hfin.c2]) rfl
    ⟨x, y, z, x1, y1, z1, rfl, ((HW1.out.setCell (p := ⟨w.heap.size, 0, none⟩) (Nat.le_refl _) _).setCell (p := ⟨w.heap.size, 1, none⟩) (Nat.le_refl _) _).setCell (p := ⟨w.heap.size, 2, none⟩) (Nat.le_refl _) _⟩

/-- what a drawn vector of small whole numbers leaves -/
def IntVecPost (w : World) (e : Ending) (w' : World) : Prop :=
  ∃ x y z : Int, x.natAbs ≤ 50 ∧ y.natAbs ≤ 50 ∧ z.natAbs ≤ 50 ∧ e = .returned (.agg #[.float .f32 (floatOfInt .f32 x), .float .f32 (floatOfInt .f32 y), .float .f32 (floatOfInt .f32 z)]) ∧ Below w.heap.size w w'

set_option maxHeartbeats 2000000 in
theorem intvector_any (a : Option Addr) (n c : Nat) (w : World) (hb : Bytes w a n w.heap.size) (hn : (n : Int) ≤ 4611686018427387904) :
    Calls Tryz.prog 5 #[.slice a n c, .int .i64 50] w (IntVecPost w) := by
  have HB := Lib.hid hb
  clear hb
  go_enter Tryz.func5, Tryz.ntmps5
  go_wp2_with fail
  refine (src_new a n c _).mono ?_
  rintro e w1 ⟨rfl, rfl⟩
  go_wp2_with fail
  have hs0 := src_of_new a n c (w.alloc (.cells #[.float .f32 0, .float .f32 0, .float .f32 0] 26))
  have e0 : (w.alloc (.cells #[.float .f32 0, .float .f32 0, .float .f32 0] 26)).heap.size = w.heap.size + 1 := by simp
  rw [e0] at hs0
  have HS0 := Lib.hid hs0
  have bl := Lib.hid (((Below.refl w.heap.size w).alloc (Nat.le_refl _) (.cells #[.float .f32 0, .float .f32 0, .float .f32 0] 26)).alloc (by simp) (.cells #[.slice a n c, .int .i64 0, .int .u64 0] 53))
  have HB0 : RowKit.Hid (Bytes ((w.alloc (.cells #[.float .f32 0, .float .f32 0, .float .f32 0] 26)).alloc (.cells #[.slice a n c, .int .i64 0, .int .u64 0] 53)) a n (w.heap.size + 1)) := by
    rcases HB.out.below bl.out with h | ⟨b, off, h1, h2, h3⟩
    · exact Or.inl h
    · exact Or.inr ⟨b, off, h1, by omega, h3⟩
  have HR0 := Lib.hid ((Three.new w (.float .f32 0) (.float .f32 0) (.float .f32 0) 26).alloc (.cells #[.slice a n c, .int .i64 0, .int .u64 0] 53))
  clear hs0 e0
  refine (pick_any _ a n c 0 0 101 _ HS0.out HB0.out (by omega) (by omega) hn (by omega) (by omega)).mono ?_
  rintro e w1 ⟨x, i1, s1, x0, x1, rfl, hs1, ho1, hi1, hi2⟩
  have HS1 := Lib.hid hs1
  have HB1 := Lib.hid (HB0.out.only ho1)
  have HR1 := Lib.hid (HR0.out.keeps ho1.keeps (by omega))
  have HW1 := Lib.hid (below_keeps bl.out ho1.keeps (by omega))
  clear hs1 ho1
  go_wp2_with fail
  have hsz := Lib.hid (show w.heap.size < w1.heap.size from HR1.out.lt)
  have hBV := Lib.hid HS1.out.lt
  have HS1' := Lib.hid (HS1.out.alloc HS1.out.lt (.cells #[.float .f32 (floatOfInt .f32 (x - 50)), .float .f32 0, .float .f32 0] 26))
  have HB1' := Lib.hid (HB1.out.keeps (Keeps.alloc _ w1 (.cells #[.float .f32 (floatOfInt .f32 (x - 50)), .float .f32 0, .float .f32 0] 26)) (Nat.le_of_lt HS1.out.lt))
  refine (pick_any _ a n c i1 s1 101 _ HS1'.out HB1'.out (by omega) (by omega) hn (by omega) (by omega)).mono ?_
  rintro e w2 ⟨y, i2, s2, y0, y1, rfl, hs2, ho2, hi3, hi4⟩
  have HS2 := Lib.hid hs2
  have HB2 := Lib.hid (HB1'.out.only ho2)
  have HR2 := Lib.hid ((HR1.out.alloc _).keeps ho2.keeps (by omega))
  have hV2 := (Three.new w1 (.float .f32 (floatOfInt .f32 (x - 50))) (.float .f32 0) (.float .f32 0) 26).keeps ho2.keeps (Nat.ne_of_gt HS1.out.lt)
  have HV2 := Lib.hid hV2
  have HW2 := Lib.hid (below_keeps (HW1.out.alloc (Nat.le_of_lt hsz.out) (.cells #[.float .f32 (floatOfInt .f32 (x - 50)), .float .f32 0, .float .f32 0] 26)) ho2.keeps (by omega))
  obtain ⟨_, g1, _, _, g4, _⟩ := hV2
  clear hs2 ho2
  go_wp2_with fail
  have HS2' := Lib.hid (HS2.out.far (p := ⟨w1.heap.size, 1, none⟩) (Nat.ne_of_gt hBV.out) (.float .f32 (floatOfInt .f32 (y - 50))))
  have HB2' := Lib.hid (HB2.out.below (((Below.refl _ w2).setCell (p := ⟨w1.heap.size, 1, none⟩) (Nat.le_of_lt hBV.out) (.float .f32 (floatOfInt .f32 (y - 50))))))
  refine (pick_any _ a n c i2 s2 101 _ HS2'.out HB2'.out (by omega) (by omega) hn (by omega) (by omega)).mono ?_
  rintro e w3 ⟨z, i3, s3, z0, z1, rfl, hs3, ho3, hi5, hi6⟩
  have HR3 := Lib.hid ((HR2.out.far (p := ⟨w1.heap.size, 1, none⟩) (Nat.ne_of_gt hsz.out) (.float .f32 (floatOfInt .f32 (y - 50)))).keeps ho3.keeps (by omega))
  have hV3 := (HV2.out.set1 (.float .f32 (floatOfInt .f32 (y - 50)))).keeps ho3.keeps (Nat.ne_of_gt hBV.out)
  have HV3 := Lib.hid hV3
  have HW3 := Lib.hid (below_keeps (HW2.out.setCell (p := ⟨w1.heap.size, 1, none⟩) (Nat.le_of_lt hsz.out) (.float .f32 (floatOfInt .f32 (y - 50)))) ho3.keeps (by omega))
  clear hs3 ho3 g1 g4
  obtain ⟨_, _, g2, _, _, g5⟩ := hV3
  obtain ⟨q0, q1, q2, q3, q4, q5⟩ := HR3.out.far (p := ⟨w1.heap.size, 2, none⟩) (Nat.ne_of_gt hsz.out) (.float .f32 (floatOfInt .f32 (z - 50)))
  obtain ⟨p0, p1, p2, _, _, _⟩ := HV3.out.set2 (.float .f32 (floatOfInt .f32 (z - 50)))
  go_wp2_with fail
  have hfin := (HR3.out.far (p := ⟨w1.heap.size, 2, none⟩) (Nat.ne_of_gt hsz.out) (.float .f32 (floatOfInt .f32 (z - 50)))).setAll (.float .f32 (floatOfInt .f32 (x - 50))) (.float .f32 (floatOfInt .f32 (y - 50))) (.float .f32 (floatOfInt .f32 (z - 50)))
  exact bodyPost_ret (v := .agg #[.float .f32 (floatOfInt .f32 (x - 50)), .float .f32 (floatOfInt .f32 (y - 50)), .float .f32 (floatOfInt .f32 (z - 50))]) (by simp [results, Tryz.results5, go_sem, hfin.c0, hfin.c1, hfin.c2]) rfl
    ⟨x - 50, y - 50, z - 50, by omega, by omega, by omega, rfl, (((HW3.out.setCell (p := ⟨w1.heap.size, 2, none⟩) (Nat.le_of_lt hsz.out) _).setCell (p := ⟨w.heap.size, 0, none⟩) (Nat.le_refl _) _).setCell (p := ⟨w.heap.size, 1, none⟩) (Nat.le_refl _) _).setCell (p := ⟨w.heap.size, 2, none⟩) (Nat.le_refl _) _⟩
end Go.Proofs.YtpmecojegehikaaGreatDoor
