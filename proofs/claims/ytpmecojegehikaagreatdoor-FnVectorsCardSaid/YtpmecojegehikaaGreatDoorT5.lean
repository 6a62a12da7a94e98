/- The walk of the text of a vector. -/
import Derived.Test.YtpmecojegehikaaGreatDoorT4
namespace Go.Proofs.YtpmecojegehikaaGreatDoor
open Go.RowKit

theorem dig_list (x : Nat) : (dig x).data.toList = low (bits32 x) 8 := rfl
theorem dig_len (x : Nat) : (dig x).data.toList.length = 8 := by rw [dig_list, low_length]

theorem three_join (x y z : Nat) : Lib.join (([x, y, z].map dig).map fun x => x.data.toList) [44] = (dig x).data.toList ++ (44 :: (dig y).data.toList ++ (44 :: (dig z).data.toList)) := by
  simp [Lib.join_cons, Lib.joinTail]

theorem alloc_cell_at (w : World) (xs : Array Value) (T : TypeId) (j n : Nat) (h : w.heap.size = n) : (w.alloc (.cells xs T)).cell? ⟨n, j, none⟩ = xs[j]? := by
  subst h; exact alloc_cell w xs T j

set_option maxHeartbeats 1000000 in
theorem numbers_any (x y z : Nat) (w : World) :
    Calls Tryz.prog 28 #[.agg #[.float .f32 x, .float .f32 y, .float .f32 z]] w fun e w' =>
      e = .returned (.slice (some ⟨w.heap.size + 1, 0, none⟩) 3 3) ∧ w' = (w.alloc (.cells #[.float .f32 x, .float .f32 y, .float .f32 z] 26)).alloc (.cells #[.float .f32 x, .float .f32 y, .float .f32 z] 24) := by
  go_enter Tryz.func28, Tryz.ntmps28
  go_wp2_with fail
  go_ret
  exact ⟨rfl, rfl⟩

set_option maxHeartbeats 1000000 in
theorem vtext_any (x y z : Nat) (w : World) (hx : x < 4294967296) (hy : y < 4294967296) (hz : z < 4294967296) (hT : w.cell? ⟨6, 15, none⟩ = some (.int .u8 4)) :
    Calls Tryz.prog 18 #[.agg #[.float .f32 x, .float .f32 y, .float .f32 z]] w fun e w' => e = .returned (.string (numsText [x, y, z])) ∧ Below w.heap.size w w' := by
  have HT := Lib.hid hT
  have h6 := Lib.hid (World.block_lt_of_cell? w _ hT)
  clear hT
  go_enter Tryz.func18, Tryz.ntmps18
  go_wp2_with fail
  refine (numbers_any x y z _).mono ?_
  rintro e w1 ⟨rfl, rfl⟩
  go_wp2_with fail
  have bl := Lib.hid ((((Below.refl w.heap.size w).alloc (Nat.le_refl _) (.cells #[.float .f32 x, .float .f32 y, .float .f32 z] 26)).alloc (by simp) (.cells #[.float .f32 x, .float .f32 y, .float .f32 z] 26)).alloc (by simp; omega) (.cells #[.float .f32 x, .float .f32 y, .float .f32 z] 24))
  have hcells : RowKit.Hid (∀ j (h : j < [x, y, z].length), ((((w.alloc (.cells #[.float .f32 x, .float .f32 y, .float .f32 z] 26)).alloc (.cells #[.float .f32 x, .float .f32 y, .float .f32 z] 26)).alloc (.cells #[.float .f32 x, .float .f32 y, .float .f32 z] 24))).cell? ⟨w.heap.size + 1 + 1, 0 + j, none⟩ = some (.float .f32 ([x, y, z][j]))) := by
    intro j h
    rw [Nat.zero_add]
    refine (alloc_cell_at _ _ _ j _ (by simp)).trans ?_
    match j, h with
    | 0, _ => rfl
    | 1, _ => rfl
    | 2, _ => rfl
  have hsz : RowKit.Hid (w.heap.size + 1 + 1 < ((((w.alloc (.cells #[.float .f32 x, .float .f32 y, .float .f32 z] 26)).alloc (.cells #[.float .f32 x, .float .f32 y, .float .f32 z] 26)).alloc (.cells #[.float .f32 x, .float .f32 y, .float .f32 z] 24))).heap.size) := by
    unfold RowKit.Hid; simp
  generalize ((((w.alloc (.cells #[.float .f32 x, .float .f32 y, .float .f32 z] 26)).alloc (.cells #[.float .f32 x, .float .f32 y, .float .f32 z] 26)).alloc (.cells #[.float .f32 x, .float .f32 y, .float .f32 z] 24))) = w3 at bl hcells hsz ⊢
  refine (numtext_any [x, y, z] (w.heap.size + 1 + 1) 0 3 w3 hcells.out hsz.out (by intro q hq; simp at hq; rcases hq with rfl | rfl | rfl <;> assumption) (by simp) (by simp) (by rw [bl.out.cell (by exact h6.out)]; exact HT.out) (by rw [three_join]; simp only [List.length_append, List.length_cons, dig_len]; omega)).mono ?_
  rintro e w1 ⟨rfl, hb1⟩
  have HB1 := Lib.hid (bl.out.trans (hb1.mono bl.out.size))
  clear hb1
  generalize hs : numsText [x, y, z] = str
  have HSTR := Lib.hid hs
  clear hs
  go_wp2_with fail
  go_ret
  exact ⟨by rw [HSTR.out]; rfl, HB1.out⟩
end Go.Proofs.YtpmecojegehikaaGreatDoor
