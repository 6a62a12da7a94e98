/- The walks of the sameness of numbers and vectors. -/
import Derived.Test.YtpmecojegehikaaGreatDoorT5
namespace Go.Proofs.YtpmecojegehikaaGreatDoor
open Go.RowKit

theorem widen_some (x : Nat) (h : (FloatKind.f32.format.order x x != some .eq) = false) : ∃ y, floatToFloatBits .f32 x .f64 = some y := by
  unfold floatToFloatBits
  rw [if_neg (by decide)]
  have hr : FloatKind.f32.decode x = Ieee.single.read x := rfl
  rw [hr]
  cases hd : Ieee.single.read x with
  | number s m e =>
    have hf : Fl.Fin Ieee.single x (Fl.num s m e) := ⟨s, m, e, hd, rfl⟩
    have hw := Fl.widen_fin hf
    rw [hd] at hw
    have hi := Fl.not_infinity hw
    have e1 : FloatKind.f64.decode (FloatKind.f64.encode (.number s m e)) = Ieee.double.read (Ieee.double.write (.number s m e)) := rfl
    simp only [e1, hi]
    exact ⟨_, rfl⟩
  | infinity s => exact ⟨_, rfl⟩
  | nan s t =>
    exfalso
    have ho : FloatKind.f32.format.order x x = none := by
      show Ieee.Datum.order (Ieee.single.read x) (Ieee.single.read x) = none
      rw [hd]; rfl
    rw [ho] at h
    revert h; decide

/-- is a 64-bit word's first bit set? -/
def signOf (y : Nat) : Bool := decide (wrap64 (y : Int) < 0)

set_option maxHeartbeats 1000000 in
theorem signbit_any (y : Nat) (w : World) : Calls Tryz.prog 56 #[.float .f64 y] w fun e w' => e = .returned (.bool (signOf y)) ∧ w = w' := by
  have hb := bits64_entry y
  go_enter Tryz.func56, Tryz.ntmps56
  go_wp2
  go_ret
  exact ⟨rfl, rfl⟩

set_option maxHeartbeats 1000000 in
theorem same_any (x : Nat) (w : World) : Calls Tryz.prog 43 #[.float .f32 (bits32 x), .float .f32 x] w fun e w' => e = .returned (.bool true) ∧ w = w' := by
  by_cases hn : (FloatKind.f32.format.order x x != some .eq) = true
  · have e : bits32 x = 2143289344 := by unfold bits32; rw [if_pos hn]
    have h2 := (show (FloatKind.f32.format.order 2143289344 2143289344 != some .eq) = true by decide +kernel)
    rw [e]
    clear e
    go_enter Tryz.func43, Tryz.ntmps43
    go_wp2
    go_ret
    exact ⟨rfl, rfl⟩
  · have hn2 : (FloatKind.f32.format.order x x != some .eq) = false := by simpa using hn
    have e : bits32 x = x := by unfold bits32; rw [if_neg hn]
    rw [e]
    clear e hn
    obtain ⟨y, hy⟩ := widen_some x hn2
    have c1 := convf (P := Tryz.prog) 24 56 _ _ _ _ (by rw [Tryz.underlying24]; rfl) Tryz.underlying56 hy
    have h3 : (FloatKind.f32.format.order x x == some .eq) = true := by simpa using hn2
    clear hy
    go_enter Tryz.func43, Tryz.ntmps43
    go_wp2_with (first | (go_at_call 56; refine (signbit_any _ _).mono ?_; rintro e w' ⟨rfl, rfl⟩))
    go_ret
    exact ⟨rfl, rfl⟩
end Go.Proofs.YtpmecojegehikaaGreatDoor
