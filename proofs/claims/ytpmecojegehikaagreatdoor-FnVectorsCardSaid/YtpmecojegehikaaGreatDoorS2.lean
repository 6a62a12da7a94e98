/- The walks of the sameness of vectors. -/
import Derived.Test.YtpmecojegehikaaGreatDoorS1
namespace Go.Proofs.YtpmecojegehikaaGreatDoor
open Go.RowKit

set_option maxRecDepth 100000 in
set_option maxHeartbeats 1000000 in
theorem equalfunc_any (x y z : Nat) (b c : Nat) (w : World) (hb : ∀ j (h : j < [x, y, z].length), w.cell? ⟨b, j, none⟩ = some (.float .f32 (bits32 [x, y, z][j]))) (hc : ∀ j (h : j < [x, y, z].length), w.cell? ⟨c, j, none⟩ = some (.float .f32 [x, y, z][j])) :
    Calls Tryz.prog 42 #[.slice (some ⟨b, 0, none⟩) 3 3, .slice (some ⟨c, 0, none⟩) 3 3, .func (.func 43) #[] #[]] w fun e w' => e = .returned (.bool true) ∧ w = w' := by
  have HB := Lib.hid hb
  have HC := Lib.hid hc
  clear hb hc
  have hl3 : RowKit.Hid ([x, y, z].length = 3) := rfl
  generalize [x, y, z] = xs at HB HC hl3
  go_enter Tryz.func42, Tryz.ntmps42
  go_wp2_with fail
  go_loop [17] (fun i => ∃ k : Nat, k ≤ 3 ∧ i = .int .i64 k) (fun i => 3 - (intOf i).toNat)
  case atStart => exact ⟨0, by omega, rfl⟩
  case round =>
    obtain ⟨k, hk, rfl⟩ := hrel
    by_cases hlt : k < 3
    · have hkl : k < xs.length := by rw [hl3.out]; exact hlt
      have h1 := HB.out k hkl
      have h2 := HC.out k hkl
      generalize xs[k] = q at h1 h2
      clear hkl
      go_wp2_with (first | (go_at_call 43; refine (same_any _ _).mono ?_; rintro e w' ⟨rfl, rfl⟩))
      go_round
      case rel => exact ⟨k + 1, by omega, by go_num⟩
      case measure => simp [intOf]; omega
    · go_wp2_with fail
      go_ret
      exact ⟨rfl, rfl⟩

set_option maxRecDepth 100000 in
set_option maxHeartbeats 1000000 in
theorem samenums_any (x y z : Nat) (b c : Nat) (w : World) (hb : ∀ j (h : j < [x, y, z].length), w.cell? ⟨b, j, none⟩ = some (.float .f32 (bits32 [x, y, z][j]))) (hc : ∀ j (h : j < [x, y, z].length), w.cell? ⟨c, j, none⟩ = some (.float .f32 [x, y, z][j])) :
    Calls Tryz.prog 30 #[.slice (some ⟨b, 0, none⟩) 3 3, .slice (some ⟨c, 0, none⟩) 3 3] w fun e w' => e = .returned (.bool true) ∧ w = w' := by
  have HB := Lib.hid hb
  have HC := Lib.hid hc
  clear hb hc
  go_enter Tryz.func30, Tryz.ntmps30
  go_wp2_with (first | (go_at_call 42; refine (equalfunc_any x y z b c _ HB.out HC.out).mono ?_; rintro e w' ⟨rfl, rfl⟩))
  go_ret
  exact ⟨rfl, rfl⟩

theorem get3 (x y z j : Nat) (h : j < [x, y, z].length) : (#[Value.float .f32 x, Value.float .f32 y, Value.float .f32 z])[j]? = some (.float .f32 [x, y, z][j]) := by
  match j, h with
  | 0, _ => rfl
  | 1, _ => rfl
  | 2, _ => rfl
theorem get3b (x y z j : Nat) (h : j < [x, y, z].length) : (#[Value.float .f32 (bits32 x), Value.float .f32 (bits32 y), Value.float .f32 (bits32 z)])[j]? = some (.float .f32 (bits32 [x, y, z][j])) := by
  match j, h with
  | 0, _ => rfl
  | 1, _ => rfl
  | 2, _ => rfl

theorem sv_b (x y z : Nat) (w : World) (j : Nat) (h : j < [x, y, z].length) :
    (((((((w.alloc (.cells #[.float .f32 (bits32 x), .float .f32 (bits32 y), .float .f32 (bits32 z)] 26)).alloc (.cells #[.float .f32 x, .float .f32 y, .float .f32 z] 26)).alloc (.cells #[.float .f32 (bits32 x), .float .f32 (bits32 y), .float .f32 (bits32 z)] 26)).alloc (.cells #[.float .f32 (bits32 x), .float .f32 (bits32 y), .float .f32 (bits32 z)] 24)).alloc (.cells #[.float .f32 x, .float .f32 y, .float .f32 z] 26)).alloc (.cells #[.float .f32 x, .float .f32 y, .float .f32 z] 24)).drew).cell? ⟨w.heap.size + 1 + 1 + 1, j, none⟩ = some (.float .f32 (bits32 [x, y, z][j])) :=
  (World.cell?_alloc_lt _ _ _ (by simp)).trans ((World.cell?_alloc_lt _ _ _ (by simp)).trans ((alloc_cell_at _ _ _ j _ (by simp)).trans (get3b x y z j h)))
theorem sv_c (x y z : Nat) (w : World) (j : Nat) (h : j < [x, y, z].length) :
    (((((((w.alloc (.cells #[.float .f32 (bits32 x), .float .f32 (bits32 y), .float .f32 (bits32 z)] 26)).alloc (.cells #[.float .f32 x, .float .f32 y, .float .f32 z] 26)).alloc (.cells #[.float .f32 (bits32 x), .float .f32 (bits32 y), .float .f32 (bits32 z)] 26)).alloc (.cells #[.float .f32 (bits32 x), .float .f32 (bits32 y), .float .f32 (bits32 z)] 24)).alloc (.cells #[.float .f32 x, .float .f32 y, .float .f32 z] 26)).alloc (.cells #[.float .f32 x, .float .f32 y, .float .f32 z] 24)).drew).cell? ⟨w.heap.size + 1 + 1 + 1 + 1 + 1, j, none⟩ = some (.float .f32 [x, y, z][j]) :=
  (alloc_cell_at _ _ _ j _ (by simp)).trans (get3 x y z j h)
theorem sv_below (x y z : Nat) (w : World) : Below w.heap.size w (((((((w.alloc (.cells #[.float .f32 (bits32 x), .float .f32 (bits32 y), .float .f32 (bits32 z)] 26)).alloc (.cells #[.float .f32 x, .float .f32 y, .float .f32 z] 26)).alloc (.cells #[.float .f32 (bits32 x), .float .f32 (bits32 y), .float .f32 (bits32 z)] 26)).alloc (.cells #[.float .f32 (bits32 x), .float .f32 (bits32 y), .float .f32 (bits32 z)] 24)).alloc (.cells #[.float .f32 x, .float .f32 y, .float .f32 z] 26)).alloc (.cells #[.float .f32 x, .float .f32 y, .float .f32 z] 24)).drew) :=
  (((((((Below.refl _ _).alloc (Nat.le_refl _) _).alloc (by simp) _).alloc (by simp; omega) _).alloc (by simp; omega) _).alloc (by simp; omega) _).alloc (by simp; omega) _).drew

set_option maxRecDepth 100000 in
set_option maxHeartbeats 1000000 in
theorem samevec_any (x y z : Nat) (w : World) :
    Calls Tryz.prog 20 #[.agg #[.float .f32 (bits32 x), .float .f32 (bits32 y), .float .f32 (bits32 z)], .agg #[.float .f32 x, .float .f32 y, .float .f32 z]] w fun e w' => e = .returned (.bool true) ∧ Below w.heap.size w w' := by
  have HB := Lib.hid (sv_b x y z w)
  have HC := Lib.hid (sv_c x y z w)
  go_enter Tryz.func20, Tryz.ntmps20
  go_wp2_with fail
  go_region_with (first | (go_at_call 28; refine (numbers_any _ _ _ _).mono ?_; rintro e w' ⟨rfl, rfl⟩) | (go_at_call 30; refine (samenums_any x y z _ _ _ HB.out HC.out).mono ?_; rintro e w' ⟨rfl, rfl⟩))
  all_goals
    go_wp2_with fail
    go_ret
    exact ⟨rfl, sv_below x y z w⟩
end Go.Proofs.YtpmecojegehikaaGreatDoor
