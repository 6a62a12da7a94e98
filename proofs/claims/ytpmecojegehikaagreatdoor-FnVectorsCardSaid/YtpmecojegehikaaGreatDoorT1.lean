/- The walks of the texts of numbers: hexadecimal digits. -/
import Derived.Test.YtpmecojegehikaaGreatDoorA2
namespace Go.Proofs.YtpmecojegehikaaGreatDoor
open Go.RowKit

set_option maxHeartbeats 400000 in
theorem bits_any (x : Nat) (w : World) (hx : x < 4294967296) :
    Calls Tryz.prog 50 #[.float .f32 x] w fun e w' => e = .returned (.int .i64 (bits32 x)) ∧ w = w' := by
  have hb := bits_entry x
  by_cases hn : (FloatKind.f32.format.order x x != some .eq) = true
  · have hbits : RowKit.Hid ((bits32 x : Int) = 2143289344) := by unfold RowKit.Hid bits32; rw [if_pos hn]; rfl
    go_enter Tryz.func50, Tryz.ntmps50
    go_wp2
    go_ret
    rw [hbits.out]
    exact ⟨rfl, rfl⟩
  · have hn2 : (FloatKind.f32.format.order x x != some .eq) = false := by simpa using hn
    have hbits : RowKit.Hid (bits32 x = x) := by unfold RowKit.Hid bits32; rw [if_neg hn]
    clear hn
    go_enter Tryz.func50, Tryz.ntmps50
    go_wp2
    go_ret
    rw [hbits.out]
    exact ⟨rfl, rfl⟩

set_option maxHeartbeats 400000 in
theorem tz64_16 (w : World) (hT : w.cell? ⟨6, 15, none⟩ = some (.int .u8 4)) :
    Calls Tryz.prog 101 #[.int .u64 16] w fun e w' => e = .returned (.int .i64 4) ∧ w = w' := by
  have h1 : bits .and .u64 16 (IntKind.u64.wrap (-16)) = 16 := by decide
  have h2 : IntKind.u64.wrap (16 * 285870213051353865) / 288230376151711744 = 15 := by decide
  go_enter Tryz.func101, Tryz.ntmps101
  go_wp2
  go_ret
  exact ⟨rfl, rfl⟩

set_option maxHeartbeats 400000 in
theorem tz_16 (w : World) (hT : w.cell? ⟨6, 15, none⟩ = some (.int .u8 4)) :
    Calls Tryz.prog 90 #[.int .u64 16] w fun e w' => e = .returned (.int .i64 4) ∧ w = w' := by
  have HT := Lib.hid hT
  clear hT
  go_enter Tryz.func90, Tryz.ntmps90
  go_wp2_with (first | (go_at_call 101; refine (tz64_16 _ HT.out).mono ?_; rintro e w' ⟨rfl, rfl⟩))
  go_ret
  exact ⟨rfl, rfl⟩

set_option maxHeartbeats 400000 in
theorem pow2_16 (w : World) : Calls Tryz.prog 89 #[.int .i64 16] w fun e w' => e = .returned (.bool true) ∧ w = w' := by
  go_enter Tryz.func89, Tryz.ntmps89
  go_wp2
  go_ret
  exact ⟨rfl, rfl⟩
end Go.Proofs.YtpmecojegehikaaGreatDoor
