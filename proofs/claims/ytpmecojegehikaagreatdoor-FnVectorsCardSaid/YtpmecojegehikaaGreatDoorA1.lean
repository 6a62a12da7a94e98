/- The walks of the vector functions, in terms of the outcomes of their float operations. -/
import Derived.Test.YtpmecojegehikaaGreatDoorRows
import Derived.Test.YtpmecojegehikaaGreatDoorBase
namespace Go.Proofs.YtpmecojegehikaaGreatDoor
open Go.RowKit

set_option maxHeartbeats 400000 in
theorem add_any (a0 a1 a2 b0 b1 b2 r0 r1 r2 : Nat) (w : World) (h0 : floatBits .add .f32 a0 b0 = some r0) (h1 : floatBits .add .f32 a1 b1 = some r1) (h2 : floatBits .add .f32 a2 b2 = some r2) :
    Calls Tryz.prog 7 #[.agg #[.float .f32 a0, .float .f32 a1, .float .f32 a2], .agg #[.float .f32 b0, .float .f32 b1, .float .f32 b2]] w fun e w' =>
      e = .returned (.agg #[.float .f32 r0, .float .f32 r1, .float .f32 r2]) ∧ Below w.heap.size w w' := by
  have o0 := opf (P := Tryz.prog) _ _ _ _ _ h0
  have o1 := opf (P := Tryz.prog) _ _ _ _ _ h1
  have o2 := opf (P := Tryz.prog) _ _ _ _ _ h2
  clear h0 h1 h2
  go_enter Tryz.func7, Tryz.ntmps7
  go_wp2
  exact bodyPost_ret (v := .agg #[.float .f32 r0, .float .f32 r1, .float .f32 r2]) (by simp [results, Tryz.results7, go_sem]) rfl ⟨rfl, (((Below.refl _ _).alloc (Nat.le_refl _) _).alloc (by simp) _).alloc (by simp; omega) _⟩

set_option maxHeartbeats 400000 in
theorem less_any (a0 a1 a2 b0 b1 b2 r0 r1 r2 : Nat) (w : World) (h0 : floatBits .sub .f32 a0 b0 = some r0) (h1 : floatBits .sub .f32 a1 b1 = some r1) (h2 : floatBits .sub .f32 a2 b2 = some r2) :
    Calls Tryz.prog 8 #[.agg #[.float .f32 a0, .float .f32 a1, .float .f32 a2], .agg #[.float .f32 b0, .float .f32 b1, .float .f32 b2]] w fun e w' =>
      e = .returned (.agg #[.float .f32 r0, .float .f32 r1, .float .f32 r2]) ∧ Below w.heap.size w w' := by
  have o0 := opf (P := Tryz.prog) _ _ _ _ _ h0
  have o1 := opf (P := Tryz.prog) _ _ _ _ _ h1
  have o2 := opf (P := Tryz.prog) _ _ _ _ _ h2
  clear h0 h1 h2
  go_enter Tryz.func8, Tryz.ntmps8
  go_wp2
  exact bodyPost_ret (v := .agg #[.float .f32 r0, .float .f32 r1, .float .f32 r2]) (by simp [results, Tryz.results8, go_sem]) rfl ⟨rfl, (((Below.refl _ _).alloc (Nat.le_refl _) _).alloc (by simp) _).alloc (by simp; omega) _⟩

set_option maxHeartbeats 400000 in
theorem scale_any (a0 a1 a2 b r0 r1 r2 : Nat) (w : World) (h0 : floatBits .mul .f32 a0 b = some r0) (h1 : floatBits .mul .f32 a1 b = some r1) (h2 : floatBits .mul .f32 a2 b = some r2) :
    Calls Tryz.prog 9 #[.agg #[.float .f32 a0, .float .f32 a1, .float .f32 a2], .float .f32 b] w fun e w' =>
      e = .returned (.agg #[.float .f32 r0, .float .f32 r1, .float .f32 r2]) ∧ Below w.heap.size w w' := by
  have o0 := opf (P := Tryz.prog) _ _ _ _ _ h0
  have o1 := opf (P := Tryz.prog) _ _ _ _ _ h1
  have o2 := opf (P := Tryz.prog) _ _ _ _ _ h2
  clear h0 h1 h2
  go_enter Tryz.func9, Tryz.ntmps9
  go_wp2
  exact bodyPost_ret (v := .agg #[.float .f32 r0, .float .f32 r1, .float .f32 r2]) (by simp [results, Tryz.results9, go_sem]) rfl ⟨rfl, ((Below.refl _ _).alloc (Nat.le_refl _) _).alloc (by simp) _⟩

set_option maxHeartbeats 400000 in
theorem inner_any (a0 a1 a2 b0 b1 b2 p0 p1 p2 s r : Nat) (w : World) (h0 : floatBits .mul .f32 a0 b0 = some p0) (h1 : floatBits .mul .f32 a1 b1 = some p1) (h2 : floatBits .mul .f32 a2 b2 = some p2)
    (h3 : floatBits .add .f32 p0 p1 = some s) (h4 : floatBits .add .f32 s p2 = some r) :
    Calls Tryz.prog 11 #[.agg #[.float .f32 a0, .float .f32 a1, .float .f32 a2], .agg #[.float .f32 b0, .float .f32 b1, .float .f32 b2]] w fun e w' =>
      e = .returned (.float .f32 r) ∧ Below w.heap.size w w' := by
  have o0 := opf (P := Tryz.prog) _ _ _ _ _ h0
  have o1 := opf (P := Tryz.prog) _ _ _ _ _ h1
  have o2 := opf (P := Tryz.prog) _ _ _ _ _ h2
  have o3 := opf (P := Tryz.prog) _ _ _ _ _ h3
  have o4 := opf (P := Tryz.prog) _ _ _ _ _ h4
  clear h0 h1 h2 h3 h4
  go_enter Tryz.func11, Tryz.ntmps11
  go_wp2
  go_ret
  exact ⟨rfl, ((Below.refl _ _).alloc (Nat.le_refl _) _).alloc (by simp) _⟩

set_option maxHeartbeats 400000 in
theorem square_any (a0 a1 a2 p0 p1 p2 s r : Nat) (w : World) (h0 : floatBits .mul .f32 a0 a0 = some p0) (h1 : floatBits .mul .f32 a1 a1 = some p1) (h2 : floatBits .mul .f32 a2 a2 = some p2)
    (h3 : floatBits .add .f32 p0 p1 = some s) (h4 : floatBits .add .f32 s p2 = some r) :
    Calls Tryz.prog 12 #[.agg #[.float .f32 a0, .float .f32 a1, .float .f32 a2]] w fun e w' =>
      e = .returned (.float .f32 r) ∧ Below w.heap.size w w' := by
  have o0 := opf (P := Tryz.prog) _ _ _ _ _ h0
  have o1 := opf (P := Tryz.prog) _ _ _ _ _ h1
  have o2 := opf (P := Tryz.prog) _ _ _ _ _ h2
  have o3 := opf (P := Tryz.prog) _ _ _ _ _ h3
  have o4 := opf (P := Tryz.prog) _ _ _ _ _ h4
  clear h0 h1 h2 h3 h4
  go_enter Tryz.func12, Tryz.ntmps12
  go_wp2
  go_ret
  exact ⟨rfl, (Below.refl _ _).alloc (Nat.le_refl _) _⟩

set_option maxHeartbeats 400000 in
theorem cross_any (a0 a1 a2 b0 b1 b2 p01 p02 p10 p12 p20 p21 r0 r1 r2 : Nat) (w : World)
    (h12 : floatBits .mul .f32 a1 b2 = some p12) (h21 : floatBits .mul .f32 a2 b1 = some p21) (h20 : floatBits .mul .f32 a2 b0 = some p20)
    (h02 : floatBits .mul .f32 a0 b2 = some p02) (h01 : floatBits .mul .f32 a0 b1 = some p01) (h10 : floatBits .mul .f32 a1 b0 = some p10)
    (h0 : floatBits .sub .f32 p12 p21 = some r0) (h1 : floatBits .sub .f32 p20 p02 = some r1) (h2 : floatBits .sub .f32 p01 p10 = some r2) :
    Calls Tryz.prog 6 #[.agg #[.float .f32 a0, .float .f32 a1, .float .f32 a2], .agg #[.float .f32 b0, .float .f32 b1, .float .f32 b2]] w fun e w' =>
      e = .returned (.agg #[.float .f32 r0, .float .f32 r1, .float .f32 r2]) ∧ Below w.heap.size w w' := by
  have o12 := opf (P := Tryz.prog) _ _ _ _ _ h12
  have o21 := opf (P := Tryz.prog) _ _ _ _ _ h21
  have o20 := opf (P := Tryz.prog) _ _ _ _ _ h20
  have o02 := opf (P := Tryz.prog) _ _ _ _ _ h02
  have o01 := opf (P := Tryz.prog) _ _ _ _ _ h01
  have o10 := opf (P := Tryz.prog) _ _ _ _ _ h10
  have o0 := opf (P := Tryz.prog) _ _ _ _ _ h0
  have o1 := opf (P := Tryz.prog) _ _ _ _ _ h1
  have o2 := opf (P := Tryz.prog) _ _ _ _ _ h2
  clear h0 h1 h2 h12 h21 h20 h02 h01 h10
  go_enter Tryz.func6, Tryz.ntmps6
  go_wp2
  exact bodyPost_ret (v := .agg #[.float .f32 r0, .float .f32 r1, .float .f32 r2]) (by simp [results, Tryz.results6, go_sem]) rfl ⟨rfl, (((Below.refl _ _).alloc (Nat.le_refl _) _).alloc (by simp) _).alloc (by simp; omega) _⟩

set_option maxHeartbeats 400000 in
theorem vequal_yes (a0 a1 a2 b0 b1 b2 : Nat) (w : World) (h0 : (FloatKind.f32.format.order a0 b0 == some .eq) = true) (h1 : (FloatKind.f32.format.order a1 b1 == some .eq) = true) (h2 : (FloatKind.f32.format.order a2 b2 == some .eq) = true) :
    Calls Tryz.prog 10 #[.agg #[.float .f32 a0, .float .f32 a1, .float .f32 a2], .agg #[.float .f32 b0, .float .f32 b1, .float .f32 b2]] w fun e w' =>
      e = .returned (.bool true) ∧ Below w.heap.size w w' := by
  go_enter Tryz.func10, Tryz.ntmps10
  go_wp2
  go_ret
  exact ⟨rfl, ((Below.refl _ _).alloc (Nat.le_refl _) _).alloc (by simp) _⟩
end Go.Proofs.YtpmecojegehikaaGreatDoor
