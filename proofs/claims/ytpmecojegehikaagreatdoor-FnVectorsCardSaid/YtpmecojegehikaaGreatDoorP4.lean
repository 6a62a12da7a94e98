/- The walk of the reading of the text of a vector. -/
import Derived.Test.YtpmecojegehikaaGreatDoorP3
namespace Go.Proofs.YtpmecojegehikaaGreatDoor
open Go.RowKit

set_option maxRecDepth 100000 in
set_option maxHeartbeats 1000000 in
theorem readvec_any (x y z : Nat) (m : Int) (w : World) (hx : x < 4294967296) (hy : y < 4294967296) (hz : z < 4294967296)
    (hM : w.cell? ⟨4, 0, none⟩ = some (.int .i64 m)) (hT : w.cell? ⟨6, 15, none⟩ = some (.int .u8 4)) :
    Calls Tryz.prog 19 #[.string (numsText [x, y, z])] w fun e w' => e = .returned (.tuple #[.agg #[.float .f32 (bits32 x), .float .f32 (bits32 y), .float .f32 (bits32 z)], .bool true]) ∧ Below w.heap.size w w' := by
  have HM := Lib.hid hM
  have HT := Lib.hid hT
  have h6 := Lib.hid (World.block_lt_of_cell? w _ hT)
  have h4 := Lib.hid (World.block_lt_of_cell? w _ hM)
  clear hM hT
  go_enter Tryz.func19, Tryz.ntmps19
  go_wp2_with fail
  have bl := Lib.hid ((Below.refl w.heap.size w).alloc (Nat.le_refl _) (.cells #[.float .f32 0, .float .f32 0, .float .f32 0] 26))
  have hR := Lib.hid (Three.new w (.float .f32 0) (.float .f32 0) (.float .f32 0) 26)
  refine (readnums_any x y z m _ hx hy hz (by rw [bl.out.cell (by exact h4.out)]; exact HM.out) (by rw [bl.out.cell (by exact h6.out)]; exact HT.out)).mono ?_
  rintro e w1 ⟨g, c, rfl, c0, c1, c2, hb1⟩
  have hlt : w.heap.size < (w.alloc (.cells #[.float .f32 0, .float .f32 0, .float .f32 0] 26)).heap.size := hR.out.lt
  have HR1 : RowKit.Hid (Three w1 w.heap.size (.float .f32 0) (.float .f32 0) (.float .f32 0)) :=
    ⟨by rw [hb1.cell (by exact hlt)]; exact hR.out.c0, by rw [hb1.cell (by exact hlt)]; exact hR.out.c1, by rw [hb1.cell (by exact hlt)]; exact hR.out.c2,
     by rw [hb1.frozen (by exact hlt)]; exact hR.out.f0, by rw [hb1.frozen (by exact hlt)]; exact hR.out.f1, by rw [hb1.frozen (by exact hlt)]; exact hR.out.f2⟩
  have HB1 := Lib.hid (bl.out.trans (hb1.mono (Nat.le_of_lt hlt)))
  clear hb1 hlt
  obtain ⟨q0, q1, q2, q3, q4, q5⟩ := HR1.out
  go_wp2_with fail
  go_region
  all_goals (go_wp2_with fail)
  have hfin := HR1.out.setAll (.float .f32 (bits32 x)) (.float .f32 (bits32 y)) (.float .f32 (bits32 z))
  have hbf := ((HB1.out.setCell (p := ⟨w.heap.size, 0, none⟩) (Nat.le_refl _) (.float .f32 (bits32 x))).setCell (p := ⟨w.heap.size, 1, none⟩) (Nat.le_refl _) (.float .f32 (bits32 y))).setCell (p := ⟨w.heap.size, 2, none⟩) (Nat.le_refl _) (.float .f32 (bits32 z))
  exact bodyPost_ret (v := .tuple #[.agg #[.float .f32 (bits32 x), .float .f32 (bits32 y), .float .f32 (bits32 z)], .bool true]) (by simp [results, Tryz.results19, go_sem, hfin.c0, hfin.c1, hfin.c2]) rfl ⟨rfl, hbf.drew⟩
end Go.Proofs.YtpmecojegehikaaGreatDoor
