/- The walk of the vector between two. -/
import Derived.Test.YtpmecojegehikaaGreatDoorU1
namespace Go.Proofs.YtpmecojegehikaaGreatDoor
open Go.RowKit

theorem Three.below {w w' : World} {V : Nat} {x y z : Value} (h : Three w V x y z) (k : Below w.heap.size w w') : Three w' V x y z :=
  ⟨keep1 k h.c0, keep1 k h.c1, keep1 k h.c2, keepf k h.c0 h.f0, keepf k h.c1 h.f1, keepf k h.c2 h.f2⟩
theorem Three.drew {w : World} {V : Nat} {x y z : Value} (h : Three w V x y z) : Three w.drew V x y z := ⟨h.c0, h.c1, h.c2, h.f0, h.f1, h.f2⟩

set_option maxHeartbeats 4000000 in
theorem between_any (a0 a1 a2 b0 b1 b2 t d0 d1 d2 m0 m1 m2 r0 r1 r2 : Nat) (w : World)
    (h0 : floatBits .sub .f32 b0 a0 = some d0) (h1 : floatBits .sub .f32 b1 a1 = some d1) (h2 : floatBits .sub .f32 b2 a2 = some d2)
    (k0 : floatBits .mul .f32 d0 t = some m0) (k1 : floatBits .mul .f32 d1 t = some m1) (k2 : floatBits .mul .f32 d2 t = some m2)
    (l0 : floatBits .add .f32 a0 m0 = some r0) (l1 : floatBits .add .f32 a1 m1 = some r1) (l2 : floatBits .add .f32 a2 m2 = some r2) :
    Calls Tryz.prog 16 #[.agg #[.float .f32 a0, .float .f32 a1, .float .f32 a2], .agg #[.float .f32 b0, .float .f32 b1, .float .f32 b2], .float .f32 t] w fun e w' =>
      e = .returned (.agg #[.float .f32 r0, .float .f32 r1, .float .f32 r2]) ∧ Below w.heap.size w w' := by
  have h0 := Lib.hid h0
  have h1 := Lib.hid h1
  have h2 := Lib.hid h2
  have k0 := Lib.hid k0
  have k1 := Lib.hid k1
  have k2 := Lib.hid k2
  have l0 := Lib.hid l0
  have l1 := Lib.hid l1
  have l2 := Lib.hid l2
  have HA := Lib.hid (((Three.new w (.float .f32 a0) (.float .f32 a1) (.float .f32 a2) 26).alloc (.cells #[.float .f32 b0, .float .f32 b1, .float .f32 b2] 26)).alloc (.cells #[.float .f32 0, .float .f32 0, .float .f32 0] 26))
  have HB := Lib.hid ((Three.new (w.alloc (.cells #[.float .f32 a0, .float .f32 a1, .float .f32 a2] 26)) (.float .f32 b0) (.float .f32 b1) (.float .f32 b2) 26).alloc (.cells #[.float .f32 0, .float .f32 0, .float .f32 0] 26))
  have HR := Lib.hid (Three.new ((w.alloc (.cells #[.float .f32 a0, .float .f32 a1, .float .f32 a2] 26)).alloc (.cells #[.float .f32 b0, .float .f32 b1, .float .f32 b2] 26)) (.float .f32 0) (.float .f32 0) (.float .f32 0) 26)
  have HW := Lib.hid ((((Below.refl _ w).alloc (Nat.le_refl _) (.cells #[.float .f32 a0, .float .f32 a1, .float .f32 a2] 26)).alloc (by simp) (.cells #[.float .f32 b0, .float .f32 b1, .float .f32 b2] 26)).alloc (by simp; omega) (.cells #[.float .f32 0, .float .f32 0, .float .f32 0] 26))
  have e1 : (w.alloc (.cells #[.float .f32 a0, .float .f32 a1, .float .f32 a2] 26)).heap.size = w.heap.size + 1 := by simp
  have e2 : ((w.alloc (.cells #[.float .f32 a0, .float .f32 a1, .float .f32 a2] 26)).alloc (.cells #[.float .f32 b0, .float .f32 b1, .float .f32 b2] 26)).heap.size = w.heap.size + 1 + 1 := by simp
  rw [e1] at HB
  rw [e2] at HR
  clear e1 e2
  go_enter Tryz.func16, Tryz.ntmps16
  go_wp2_with fail
  generalize (((w.alloc (.cells #[.float .f32 a0, .float .f32 a1, .float .f32 a2] 26)).alloc (.cells #[.float .f32 b0, .float .f32 b1, .float .f32 b2] 26)).alloc (.cells #[.float .f32 0, .float .f32 0, .float .f32 0] 26)) = W at HA HB HR HW ⊢
  obtain ⟨p0, p1, p2, _, _, _⟩ := HA.out
  obtain ⟨q0, q1, q2, _, _, _⟩ := HB.out
  have HA := Lib.hid HA.out.drew
  have HB := Lib.hid HB.out.drew
  have HR := Lib.hid HR.out.drew
  have HW := Lib.hid HW.out.drew
  go_region_with (first
    | (go_at_call 8; refine (less_any _ _ _ _ _ _ _ _ _ _ h0.out h1.out h2.out).mono ?_; rintro e w2 ⟨rfl, hb⟩; have HA := Lib.hid (HA.out.below hb); have HB := Lib.hid (HB.out.below hb); have HR := Lib.hid (HR.out.below hb); have HW := Lib.hid (HW.out.trans (hb.mono HW.out.size)); clear hb; obtain ⟨p0, p1, p2, _, _, _⟩ := HA.out; obtain ⟨q0, q1, q2, _, _, _⟩ := HB.out; obtain ⟨s0, s1, s2, s3, s4, s5⟩ := HR.out)
    | (go_at_call 9; refine (scale_any _ _ _ _ _ _ _ _ k0.out k1.out k2.out).mono ?_; rintro e w2 ⟨rfl, hb⟩; have HA := Lib.hid (HA.out.below hb); have HB := Lib.hid (HB.out.below hb); have HR := Lib.hid (HR.out.below hb); have HW := Lib.hid (HW.out.trans (hb.mono HW.out.size)); clear hb; obtain ⟨p0, p1, p2, _, _, _⟩ := HA.out; obtain ⟨q0, q1, q2, _, _, _⟩ := HB.out; obtain ⟨s0, s1, s2, s3, s4, s5⟩ := HR.out)
    | (go_at_call 7; refine (add_any _ _ _ _ _ _ _ _ _ _ l0.out l1.out l2.out).mono ?_; rintro e w2 ⟨rfl, hb⟩; have HA := Lib.hid (HA.out.below hb); have HB := Lib.hid (HB.out.below hb); have HR := Lib.hid (HR.out.below hb); have HW := Lib.hid (HW.out.trans (hb.mono HW.out.size)); clear hb; obtain ⟨p0, p1, p2, _, _, _⟩ := HA.out; obtain ⟨q0, q1, q2, _, _, _⟩ := HB.out; obtain ⟨s0, s1, s2, s3, s4, s5⟩ := HR.out)
    )
  all_goals
    go_wp2_with fail
    have hfin := HR.out.setAll (.float .f32 r0) (.float .f32 r1) (.float .f32 r2)
    exact bodyPost_ret (v := .agg #[.float .f32 r0, .float .f32 r1, .float .f32 r2]) (by simp [results, Tryz.results16, go_sem, hfin.c0, hfin.c1, hfin.c2]) rfl
      ⟨rfl, ((HW.out.setCell (p := ⟨w.heap.size + 1 + 1, 0, none⟩) (by simp; omega) _).setCell (p := ⟨w.heap.size + 1 + 1, 1, none⟩) (by simp; omega) _).setCell (p := ⟨w.heap.size + 1 + 1, 2, none⟩) (by simp; omega) _⟩
end Go.Proofs.YtpmecojegehikaaGreatDoor
