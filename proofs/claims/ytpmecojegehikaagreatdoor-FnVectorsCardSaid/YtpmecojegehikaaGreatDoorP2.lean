/- The walk of the reading of the text of a number. -/
import Derived.Test.YtpmecojegehikaaGreatDoorP1
namespace Go.Proofs.YtpmecojegehikaaGreatDoor
open Go.RowKit

set_option maxHeartbeats 1000000 in
theorem sparse_any (s : ByteArray) (n : Nat) (w : World) (hn : n < 4294967296) (hs : s.data.toList = low n 8) :
    Calls Tryz.prog 54 #[.string s, .int .i64 16, .int .i64 32] w fun e w' => e = .returned (.tuple #[.int .u64 n, .nilIface]) ∧ Below w.heap.size w w' := by
  have HS := Lib.hid hs
  clear hs
  go_enter Tryz.func54, Tryz.ntmps54
  go_wp2_with fail
  refine (iparse_any s n _ hn HS.out).mono ?_
  rintro e w1 ⟨rfl, hb⟩
  have HB := Lib.hid hb
  clear hb
  go_wp2_with fail
  go_ret2
  exact ⟨rfl, HB.out⟩

theorem nan_is : (FloatKind.f32.format.order 2143289344 2143289344 != some .eq) = true := by decide +kernel
theorem bits32_twice (x : Nat) : bits32 (bits32 x) = bits32 x := by
  by_cases h : (FloatKind.f32.format.order x x != some .eq) = true
  · have e : bits32 x = 2143289344 := by unfold bits32; rw [if_pos h]
    rw [e]; unfold bits32; rw [if_pos nan_is]
  · have e : bits32 x = x := by unfold bits32; rw [if_neg h]
    rw [e, e]

theorem u32_of (n : Nat) (h : n < 4294967296) : IntKind.u32.wrap (n : Int) = n := by
  simp [IntKind.wrap, IntKind.bits, IntKind.signed]; omega

set_option maxHeartbeats 1000000 in
theorem readdig_any (s : ByteArray) (x : Nat) (w : World) (hx : x < 4294967296) (hs : s = dig x) (hT : w.cell? ⟨6, 15, none⟩ = some (.int .u8 4)) :
    Calls Tryz.prog 41 #[.string s] w fun e w' => e = .returned (.tuple #[.float .f32 (bits32 x), .bool true]) ∧ Below w.heap.size w w' := by
  have HS := Lib.hid hs
  have HT := Lib.hid hT
  have h6 := Lib.hid (World.block_lt_of_cell? w _ hT)
  have hbx := bits32_lt hx
  have HTW := Lib.hid (bits32_twice x)
  have hfrom := from_entry
  clear hs hT
  have hu := u32_of _ hbx
  generalize hB : bits32 x = B at hbx HTW hu ⊢
  have HB := Lib.hid hB
  clear hB
  go_enter Tryz.func41, Tryz.ntmps41
  go_wp2_with fail
  refine (sparse_any s B _ hbx (by rw [HS.out, dig_list, HB.out])).mono ?_
  rintro e w1 ⟨rfl, hb⟩
  have HB1 := Lib.hid hb
  clear hb
  go_wp2_with fail
  refine (digits_any B _ hbx (by rw [HB1.out.cell (by exact h6.out)]; exact HT.out)).mono ?_
  rintro e w2 ⟨rfl, hb2⟩
  have HB2 := Lib.hid (HB1.out.trans (hb2.mono HB1.out.size))
  have ht : (⟨(low (bits32 B) 8).toArray⟩ : ByteArray) = s := by
    rw [HS.out, HTW.out]; unfold dig; rw [HB.out]
  rw [ht]
  clear ht hb2
  go_wp2_with fail
  go_ret2
  exact ⟨rfl, HB2.out⟩
end Go.Proofs.YtpmecojegehikaaGreatDoor
