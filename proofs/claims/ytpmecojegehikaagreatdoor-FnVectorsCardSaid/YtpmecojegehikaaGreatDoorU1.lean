/- The walks of the small laws: same numbers, sizes, too long arguments, between. -/
import Derived.Test.YtpmecojegehikaaGreatDoorS2
import Derived.Test.YtpmecojegehikaaGreatDoorA1
import Derived.Test.YtpmecojegehikaaGreatDoorP4
namespace Go.Proofs.YtpmecojegehikaaGreatDoor
open Go.RowKit

theorem keep1 {w w1 : World} {p : Addr} {v : Value} (hb : Below w.heap.size w w1) (h : w.cell? p = some v) : w1.cell? p = some v := by
  rw [hb.cell (World.block_lt_of_cell? w p h)]; exact h
theorem keepf {w w1 : World} {p : Addr} {v : Value} {b : Bool} (hb : Below w.heap.size w w1) (h : w.cell? p = some v) (hf : w.frozen? p = b) : w1.frozen? p = b := by
  rw [hb.frozen (World.block_lt_of_cell? w p h)]; exact hf

set_option maxHeartbeats 400000 in
theorem same01_any (x : Nat) (w : World) (hx : x < 4294967296) :
    Calls Tryz.prog 23 #[.float .f32 x, .float .f32 x] w fun e w' => e = .returned (.bool true) ∧ w = w' := by
  have HX := Lib.hid hx
  go_enter Tryz.func23, Tryz.ntmps23
  go_wp2_with (first | (go_at_call 32; refine (sbits_any _ _ HX.out).mono ?_; rintro e w' ⟨rfl, rfl⟩))
  go_ret
  exact ⟨rfl, rfl⟩

set_option maxHeartbeats 400000 in
theorem samenum_any (x : Nat) (w : World) (hx : x < 4294967296) :
    Calls Tryz.prog 13 #[.float .f32 x, .float .f32 x] w fun e w' => e = .returned (.bool true) ∧ w = w' := by
  have HX := Lib.hid hx
  go_enter Tryz.func13, Tryz.ntmps13
  go_wp2_with (first | (go_at_call 23; refine (same01_any _ _ HX.out).mono ?_; rintro e w' ⟨rfl, rfl⟩))
  go_ret
  exact ⟨rfl, rfl⟩

set_option maxHeartbeats 400000 in
theorem size_any (a0 a1 a2 p0 p1 p2 s r y z t : Nat) (w : World) (h0 : floatBits .mul .f32 a0 a0 = some p0) (h1 : floatBits .mul .f32 a1 a1 = some p1) (h2 : floatBits .mul .f32 a2 a2 = some p2)
    (h3 : floatBits .add .f32 p0 p1 = some s) (h4 : floatBits .add .f32 s p2 = some r)
    (h5 : floatToFloatBits .f32 r .f64 = some y) (h6 : FloatKind.f64.format.sqrt y = some z) (h7 : floatToFloatBits .f64 z .f32 = some t) :
    Calls Tryz.prog 14 #[.agg #[.float .f32 a0, .float .f32 a1, .float .f32 a2]] w fun e w' =>
      e = .returned (.float .f32 t) ∧ Below w.heap.size w w' := by
  have h0 := Lib.hid h0
  have h1 := Lib.hid h1
  have h2 := Lib.hid h2
  have h3 := Lib.hid h3
  have h4 := Lib.hid h4
  have h5 := Lib.hid h5
  have h6 := Lib.hid h6
  have h7 := Lib.hid h7
  go_enter Tryz.func14, Tryz.ntmps14
  go_wp2_with fail
  refine (inner_any a0 a1 a2 a0 a1 a2 p0 p1 p2 s r _ h0.out h1.out h2.out h3.out h4.out).mono ?_
  rintro e w1 ⟨rfl, hb⟩
  have HB := Lib.hid hb
  clear hb
  go_wp2_with fail
  refine (root_any r y z t _ h5.out h6.out h7.out).mono ?_
  rintro e w2 ⟨rfl, rfl⟩
  go_wp2_with fail
  go_ret
  exact ⟨rfl, ((Below.refl _ _).alloc (Nat.le_refl _) _).trans (HB.out.mono (by simp))⟩

set_option maxHeartbeats 400000 in
theorem long_any (a b : Option Addr) (n c m d : Nat) (w : World) :
    Calls Tryz.prog 4 #[.slice a n c, .slice b m d] w fun e w' => e = .returned (.bool (decide ((n : Int) > 1048576) || decide ((m : Int) > 1048576))) ∧ w = w' := by
  by_cases hn : (n : Int) > 1048576
  · go_enter Tryz.func4, Tryz.ntmps4
    go_wp2_with fail
    go_ret
    exact ⟨by simp [hn], rfl⟩
  · by_cases hm : (m : Int) > 1048576
    · go_enter Tryz.func4, Tryz.ntmps4
      go_wp2_with fail
      go_ret
      exact ⟨rfl, rfl⟩
    · go_enter Tryz.func4, Tryz.ntmps4
      go_wp2_with fail
      go_ret
      exact ⟨by simp; omega, rfl⟩
end Go.Proofs.YtpmecojegehikaaGreatDoor
