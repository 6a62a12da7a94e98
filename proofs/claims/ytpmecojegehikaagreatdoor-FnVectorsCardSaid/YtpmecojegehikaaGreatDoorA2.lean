/- The walks of the small functions on numbers: roots, bits, sameness. -/
import Derived.Test.YtpmecojegehikaaGreatDoorRows
import Derived.Test.YtpmecojegehikaaGreatDoorBase
namespace Go.Proofs.YtpmecojegehikaaGreatDoor
open Go.RowKit

theorem convf {P : Program} (src dst : TypeId) (s k : FloatKind) (b r : Nat) (hs : (P.underlying src).isSome = true) (hd : P.underlying dst = some (.float k)) (h : floatToFloatBits s b k = some r) :
    ∀ w, (convert src dst (.float s b)).run P w = .ok (.float k r) w := fun w => run_convert_float_float w src dst s k b r hs hd h

theorem sqrt_entry (y z : Nat) (h : FloatKind.f64.format.sqrt y = some z) (w : World) :
    (callFunc 45 #[.float .f64 y]).run Tryz.prog w = .ok (.value (.float .f64 z)) w := by
  rw [run_callFunc_extern Tryz.func45 (by kernel_rfl) (by kernel_rfl) (by kernel_rfl) (e := Extern.MathSqrt.sqrt) (by kernel_rfl)]
  change (Sem.run Tryz.prog (match FloatKind.f64.format.sqrt y with | some r => (Pure.pure (Value.float .f64 r) : Sem Value) | none => (choose (.nanBits .f64 y y) : Sem Nat) >>= fun b => Pure.pure (Value.float .f64 b)) w).andThen _ = _
  rw [h]; rfl

theorem bits_entry (x : Nat) (w : World) : (callFunc 44 #[.float .f32 x]).run Tryz.prog w = .ok (.value (.int .u32 x)) w := by
  rw [run_callFunc_extern Tryz.func44 (by kernel_rfl) (by kernel_rfl) (by kernel_rfl) (e := Extern.MathFloatBits.float32bits) (by kernel_rfl)]
  rfl

theorem bits64_entry (x : Nat) (w : World) : (callFunc 67 #[.float .f64 x]).run Tryz.prog w = .ok (.value (.int .u64 x)) w := by
  rw [run_callFunc_extern Tryz.func67 (by kernel_rfl) (by kernel_rfl) (by kernel_rfl) (e := Extern.MathFloatBits.float64bits) (by kernel_rfl)]
  rfl

theorem from_entry (n : Int) (w : World) : (callFunc 55 #[.int .u32 n]).run Tryz.prog w = .ok (.value (.float .f32 n.toNat)) w := by
  rw [run_callFunc_extern Tryz.func55 (by kernel_rfl) (by kernel_rfl) (by kernel_rfl) (e := Extern.MathFloatBits.float32frombits) (by kernel_rfl)]
  rfl

set_option maxHeartbeats 400000 in
theorem sqrt_any (y z : Nat) (w : World) (h : FloatKind.f64.format.sqrt y = some z) :
    Calls Tryz.prog 33 #[.float .f64 y] w fun e w' => e = .returned (.float .f64 z) ∧ w = w' := by
  have hs := sqrt_entry y z h
  go_enter Tryz.func33, Tryz.ntmps33
  go_wp2
  go_ret
  exact ⟨rfl, rfl⟩

set_option maxHeartbeats 400000 in
theorem root_any (x y z r : Nat) (w : World) (h1 : floatToFloatBits .f32 x .f64 = some y) (h2 : FloatKind.f64.format.sqrt y = some z) (h3 : floatToFloatBits .f64 z .f32 = some r) :
    Calls Tryz.prog 24 #[.float .f32 x] w fun e w' => e = .returned (.float .f32 r) ∧ w = w' := by
  have c1 := convf (P := Tryz.prog) 24 56 _ _ _ _ (by rw [Tryz.underlying24]; rfl) Tryz.underlying56 h1
  have c2 := convf (P := Tryz.prog) 56 24 _ _ _ _ (by rw [Tryz.underlying56]; rfl) Tryz.underlying24 h3
  have hs := Lib.hid h2
  clear h1 h2 h3
  go_enter Tryz.func24, Tryz.ntmps24
  go_wp2_with (first | (go_at_call 33; refine (sqrt_any _ _ _ hs.out).mono ?_; rintro e w' ⟨rfl, rfl⟩))
  go_ret
  exact ⟨rfl, rfl⟩

set_option maxHeartbeats 400000 in
theorem narrow_any (x r : Nat) (w : World) (h3 : floatToFloatBits .f64 x .f32 = some r) :
    Calls Tryz.prog 34 #[.float .f64 x] w fun e w' => e = .returned (.float .f32 r) ∧ w = w' := by
  have c2 := convf (P := Tryz.prog) 56 24 _ _ _ _ (by rw [Tryz.underlying56]; rfl) Tryz.underlying24 h3
  clear h3
  go_enter Tryz.func34, Tryz.ntmps34
  go_wp2
  go_ret
  exact ⟨rfl, rfl⟩

set_option maxHeartbeats 400000 in
theorem sroot_any (x y z r : Nat) (w : World) (h1 : floatToFloatBits .f32 x .f64 = some y) (h2 : FloatKind.f64.format.sqrt y = some z) (h3 : floatToFloatBits .f64 z .f32 = some r) :
    Calls Tryz.prog 25 #[.float .f32 x] w fun e w' => e = .returned (.float .f32 r) ∧ w = w' := by
  have c1 := convf (P := Tryz.prog) 24 56 _ _ _ _ (by rw [Tryz.underlying24]; rfl) Tryz.underlying56 h1
  have hs := Lib.hid h2
  have hn := Lib.hid h3
  clear h1 h2 h3
  go_enter Tryz.func25, Tryz.ntmps25
  go_wp2_with (first | (go_at_call 33; refine (sqrt_any _ _ _ hs.out).mono ?_; rintro e w' ⟨rfl, rfl⟩) | (go_at_call 34; refine (narrow_any _ _ _ hn.out).mono ?_; rintro e w' ⟨rfl, rfl⟩))
  go_ret
  exact ⟨rfl, rfl⟩

set_option maxHeartbeats 400000 in
theorem specroot_any (x y z r : Nat) (w : World) (h1 : floatToFloatBits .f32 x .f64 = some y) (h2 : FloatKind.f64.format.sqrt y = some z) (h3 : floatToFloatBits .f64 z .f32 = some r) :
    Calls Tryz.prog 15 #[.float .f32 x] w fun e w' => e = .returned (.float .f32 r) ∧ w = w' := by
  have h1 := Lib.hid h1
  have h2 := Lib.hid h2
  have h3 := Lib.hid h3
  go_enter Tryz.func15, Tryz.ntmps15
  go_wp2_with (first | (go_at_call 25; refine (sroot_any _ _ _ _ _ h1.out h2.out h3.out).mono ?_; rintro e w' ⟨rfl, rfl⟩))
  go_ret
  exact ⟨rfl, rfl⟩

/-- The bits by which a number is told: all not-a-numbers are one. -/
def bits32 (x : Nat) : Nat := if (FloatKind.f32.format.order x x != some .eq) = true then 2143289344 else x

set_option maxHeartbeats 400000 in
theorem sbits_any (x : Nat) (w : World) (hx : x < 4294967296) :
    Calls Tryz.prog 32 #[.float .f32 x] w fun e w' => e = .returned (.int .i64 (bits32 x)) ∧ w = w' := by
  have hb := bits_entry x
  by_cases hn : (FloatKind.f32.format.order x x != some .eq) = true
  · have hbits : RowKit.Hid ((bits32 x : Int) = 2143289344) := by unfold RowKit.Hid bits32; rw [if_pos hn]; rfl
    go_enter Tryz.func32, Tryz.ntmps32
    go_wp2
    go_ret
    rw [hbits.out]
    exact ⟨rfl, rfl⟩
  · have hn2 : (FloatKind.f32.format.order x x != some .eq) = false := by simpa using hn
    have hbits : RowKit.Hid (bits32 x = x) := by unfold RowKit.Hid bits32; rw [if_neg hn]
    clear hn
    go_enter Tryz.func32, Tryz.ntmps32
    go_wp2
    go_ret
    rw [hbits.out]
    exact ⟨rfl, rfl⟩
end Go.Proofs.YtpmecojegehikaaGreatDoor
