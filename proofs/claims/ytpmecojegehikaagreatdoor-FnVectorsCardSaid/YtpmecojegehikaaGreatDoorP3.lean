/- The walk of the reading of the text of a vector: the three words between the commas. -/
import Derived.Test.YtpmecojegehikaaGreatDoorP2
namespace Go.Proofs.YtpmecojegehikaaGreatDoor
open Go.RowKit

theorem index_at (c : UInt8) : ∀ (A r : List UInt8), c ∉ A → Lib.index (A ++ c :: r) [c] = A.length
  | [], r, _ => by simp [Lib.index, List.isPrefixOf]
  | a :: A, r, h => by
    have h1 : c ≠ a := fun e => h (by simp [e])
    have h2 : c ∉ A := fun e => h (by simp [e])
    have ih := index_at c A r h2
    show Lib.index (a :: (A ++ c :: r)) [c] = _
    unfold Lib.index
    have hp : List.isPrefixOf [c] (a :: (A ++ c :: r)) = false := by
      simp [List.isPrefixOf, h1]
    rw [hp, ih]
    have hne : (((A.length : Nat) : Int) == -1) = false := by
      rw [beq_eq_false_iff_ne]; omega
    rw [hne]
    simp

theorem index_none (c : UInt8) : ∀ (A : List UInt8), c ∉ A → Lib.index A [c] = -1
  | [], _ => by simp [Lib.index]
  | a :: A, h => by
    have h1 : c ≠ a := fun e => h (by simp [e])
    have h2 : c ∉ A := fun e => h (by simp [e])
    have ih := index_none c A h2
    unfold Lib.index
    have hp : List.isPrefixOf [c] (a :: A) = false := by simp [List.isPrefixOf, h1]
    rw [hp, ih]; rfl

theorem split3 (c : UInt8) (A B C : List UInt8) (hA : c ∉ A) (hB : c ∉ B) (hC : c ∉ C) :
    Lib.count (A ++ (c :: B ++ (c :: C))) [c] = 2 ∧ Lib.splitK [c] 0 2 (A ++ (c :: B ++ (c :: C))) = [A, B, C] := by
  have i1 : Lib.index (A ++ (c :: B ++ (c :: C))) [c] = A.length := index_at c A (B ++ (c :: C)) hA
  have i2 : Lib.index (B ++ (c :: C)) [c] = B.length := index_at c B C hB
  have i3 := index_none c C hC
  have d1 : (A ++ (c :: B ++ (c :: C))).drop (A.length + [c].length) = B ++ (c :: C) := by
    rw [List.drop_append, List.drop_of_length_le (by simp)]; simp
  have d2 : (B ++ (c :: C)).drop (B.length + [c].length) = C := by
    rw [List.drop_append, List.drop_of_length_le (by simp)]; simp
  have t1 : (A ++ (c :: B ++ (c :: C))).take (A.length + 0) = A := by simp
  have t2 : (B ++ (c :: C)).take (B.length + 0) = B := by simp
  constructor
  · rw [Lib.count_hit (by simp) i1, d1, Lib.count_hit (by simp) i2, d2, Lib.count_miss i3]
  · have n1 : ((Lib.index (A ++ (c :: B ++ (c :: C))) [c]) == -1) = false := by rw [i1, beq_eq_false_iff_ne]; omega
    have n2 : ((Lib.index (B ++ (c :: C)) [c]) == -1) = false := by rw [i2, beq_eq_false_iff_ne]; omega
    unfold Lib.splitK
    rw [n1]
    simp only [Bool.false_eq_true, if_false]
    rw [i1, Int.toNat_natCast, d1, t1]
    unfold Lib.splitK
    rw [n2]
    simp only [Bool.false_eq_true, if_false]
    rw [i2, Int.toNat_natCast, d2, t2]
    rfl

theorem hexd_ne (d : Nat) (h : d < 16) : hexd d ≠ 44 := by
  have hc : d = 0 ∨ d = 1 ∨ d = 2 ∨ d = 3 ∨ d = 4 ∨ d = 5 ∨ d = 6 ∨ d = 7 ∨ d = 8 ∨ d = 9 ∨ d = 10 ∨ d = 11 ∨ d = 12 ∨ d = 13 ∨ d = 14 ∨ d = 15 := by omega
  rcases hc with rfl | rfl | rfl | rfl | rfl | rfl | rfl | rfl | rfl | rfl | rfl | rfl | rfl | rfl | rfl | rfl <;> decide

theorem low_no (n : Nat) : ∀ k, (44 : UInt8) ∉ low n k
  | 0 => by simp [low]
  | k + 1 => by
    simp only [low, List.mem_cons, not_or]
    exact ⟨fun e => hexd_ne _ (Nat.mod_lt _ (by decide)) e.symm, low_no n k⟩

theorem map_data {l : List ByteArray} {a b c : ByteArray} (h : l.map (fun x => x.data.toList) = [a.data.toList, b.data.toList, c.data.toList]) : l = [a, b, c] := by
  rcases l with _ | ⟨x, _ | ⟨y, _ | ⟨z, _ | ⟨t, l⟩⟩⟩⟩
  · simp at h
  · simp at h
  · simp at h
  · simp only [List.map_cons, List.map_nil, List.cons.injEq, and_true] at h
    obtain ⟨h1, h2, h3⟩ := h
    rw [Go.WideShapes.bytes_inj h1, Go.WideShapes.bytes_inj h2, Go.WideShapes.bytes_inj h3]
  · simp at h

theorem nums_list (x y z : Nat) : (numsText [x, y, z]).data.toList = (dig x).data.toList ++ (44 :: (dig y).data.toList ++ (44 :: (dig z).data.toList)) := by
  have h := three_join x y z
  rw [List.map_map] at h
  exact h

theorem nums_split (x y z : Nat) : Lib.countB (numsText [x, y, z]) ⟨#[44]⟩ = 2 ∧ Lib.splitB ⟨#[44]⟩ 0 2 (numsText [x, y, z]) = [dig x, dig y, dig z] := by
  have h := split3 44 (dig x).data.toList (dig y).data.toList (dig z).data.toList (low_no _ _) (low_no _ _) (low_no _ _)
  rw [← nums_list] at h
  refine ⟨h.1, map_data ?_⟩
  rw [Lib.splitB_data]
  exact h.2

theorem nums_size (x y z : Nat) : (numsText [x, y, z]).size = 26 := by
  have h : (numsText [x, y, z]).data.toList.length = 26 := by
    rw [nums_list]
    simp only [List.length_append, List.length_cons, dig_len]
  exact h

theorem Tz.info24 : (Tryz.prog.info? 24).map (fun i => (i.zero, i.size, i.bytes)) = some (some (.float .f32 0), 1, 4) := by kernel_rfl

set_option maxHeartbeats 1000000 in
theorem apart_any (x y z : Nat) (m : Int) (w : World) (hM : w.cell? ⟨4, 0, none⟩ = some (.int .i64 m)) :
    Calls Tryz.prog 40 #[.string (numsText [x, y, z])] w fun e w' =>
      e = .returned (.tuple #[.slice (some ⟨w.heap.size, 0, none⟩) 3 3, .bool true]) ∧ w' = w.alloc (.cells #[.string (dig x), .string (dig y), .string (dig z)] 9) := by
  have HM := Lib.hid hM
  clear hM
  have hsz := Lib.hid (nums_size x y z)
  have hsp := Lib.hid (nums_split x y z)
  have hne : (numsText [x, y, z]).toList = [110, 111, 110, 101] → False := by
    intro h
    have h1 := congrArg List.length h
    rw [ByteArray.toList_eq] at h1
    have h2 := hsz.out
    have h3 : (numsText [x, y, z]).data.toList.length = 26 := h2
    rw [h3] at h1
    simp at h1
  generalize numsText [x, y, z] = s at hsz hsp hne
  have hne2 : (s.toList == [110, 111, 110, 101]) = false := by
    rw [beq_eq_false_iff_ne]; exact hne
  clear hne
  go_enter Tryz.func40, Tryz.ntmps40
  go_wp2_with fail
  have hc := Tryz.strings_Split s ⟨#[44]⟩ m w (by rw [hsz.out]; omega) HM.out (by decide)
  rw [hsp.out.1, hsp.out.2] at hc
  refine hc.mono ?_
  clear hc
  rintro e w1 ⟨rfl, rfl⟩
  go_wp2_with fail
  go_ret2
  exact ⟨rfl, rfl⟩

/-- the numbers of the first k texts -/
def nums (xs : List Nat) (k : Nat) : List Value := (xs.take k).map fun x => Value.float .f32 (bits32 x)
theorem nums_succ (xs : List Nat) (k : Nat) (h : k < xs.length) : nums xs (k + 1) = nums xs k ++ [Value.float .f32 (bits32 xs[k])] := by
  unfold nums
  rw [List.take_succ_eq_append_getElem h, List.map_append]; rfl

/-- what the reading of three numbers leaves -/
def NumsPost (x y z : Nat) (w : World) (e : Ending) (w' : World) : Prop :=
  ∃ g c, e = .returned (.tuple #[.slice (some ⟨g, 0, none⟩) 3 c, .bool true]) ∧ w'.cell? ⟨g, 0, none⟩ = some (.float .f32 (bits32 x)) ∧ w'.cell? ⟨g, 1, none⟩ = some (.float .f32 (bits32 y)) ∧
    w'.cell? ⟨g, 2, none⟩ = some (.float .f32 (bits32 z)) ∧ Below w.heap.size w w'

set_option maxRecDepth 100000 in
set_option maxHeartbeats 1000000 in
theorem readnums_any (x y z : Nat) (m : Int) (w : World) (hx : x < 4294967296) (hy : y < 4294967296) (hz : z < 4294967296)
    (hM : w.cell? ⟨4, 0, none⟩ = some (.int .i64 m)) (hT : w.cell? ⟨6, 15, none⟩ = some (.int .u8 4)) :
    Calls Tryz.prog 29 #[.string (numsText [x, y, z])] w (NumsPost x y z w) := by
  have HM := Lib.hid hM
  have HT := Lib.hid hT
  have h6 := Lib.hid (World.block_lt_of_cell? w _ hT)
  clear hM hT
  obtain ⟨i0, hi, hz0, hz1, hz2⟩ := info_parts Tz.info24
  go_enter Tryz.func29, Tryz.ntmps29
  go_wp2_with fail
  refine (apart_any x y z m w HM.out).mono ?_
  rintro e w1 ⟨rfl, rfl⟩
  go_wp2_with fail
  have hwords : RowKit.Hid (∀ j (h : j < [x, y, z].length), (w.alloc (.cells #[.string (dig x), .string (dig y), .string (dig z)] 9)).cell? ⟨w.heap.size, j, none⟩ = some (.string (dig [x, y, z][j]))) := by
    intro j h
    rw [alloc_cell]
    match j, h with
    | 0, _ => rfl
    | 1, _ => rfl
    | 2, _ => rfl
  have hsz : RowKit.Hid ((w.alloc (.cells #[.string (dig x), .string (dig y), .string (dig z)] 9)).heap.size = w.heap.size + 1) := by unfold RowKit.Hid; simp
  have hb0 := Lib.hid ((Below.refl w.heap.size w).alloc (Nat.le_refl _) (.cells #[.string (dig x), .string (dig y), .string (dig z)] 9))
  have hall : RowKit.Hid (∀ j (h : j < [x, y, z].length), [x, y, z][j] < 4294967296) := by
    intro j h
    match j, h with
    | 0, _ => exact hx
    | 1, _ => exact hy
    | 2, _ => exact hz
  have hown0 := owns_empty (w.alloc (.cells #[.string (dig x), .string (dig y), .string (dig z)] 9)) 24
  rw [hsz.out] at hown0
  have HOWN0 := Lib.hid hown0
  have hb1 := Lib.hid ((Below.refl (w.heap.size + 1) (w.alloc (.cells #[.string (dig x), .string (dig y), .string (dig z)] 9))).alloc (by rw [hsz.out]; exact Nat.le_refl _) (.cells #[] 24))
  clear hown0
  have hl3 : [x, y, z].length = 3 := rfl
  have hn3 : RowKit.Hid (nums [x, y, z] 3 = [.float .f32 (bits32 x), .float .f32 (bits32 y), .float .f32 (bits32 z)]) := rfl
  generalize (w.alloc (.cells #[.string (dig x), .string (dig y), .string (dig z)] 9)) = w0 at hwords hsz hb0 HOWN0 hb1 ⊢
  generalize [x, y, z] = xs at hwords hall hl3 hn3 ⊢
  have hl3' := Lib.hid hl3
  clear hl3
  go_loopw [6, 19] (fun v i wr => ∃ k : Nat, k ≤ 3 ∧ i = .int .i64 k ∧ wr.ownsRow (w.heap.size + 1) 24 1 v k (nums xs k) ∧ Below (w.heap.size + 1) w0 wr) (fun _ i _ => 3 - (intOf i).toNat)
  case atStart => exact ⟨0, by omega, rfl, HOWN0.out, hb1.out⟩
  case round =>
    obtain ⟨k, hk, rfl, hown, hbel⟩ := hrel
    have HOWN := Lib.hid hown
    have HBEL := Lib.hid hbel
    clear hown hbel
    by_cases hlt : k < 3
    · have hkl : k < xs.length := by rw [hl3'.out]; exact hlt
      have hcell : wr.cell? ⟨w.heap.size, k, none⟩ = some (.string (dig xs[k])) := by rw [HBEL.out.cell (by show w.heap.size < _; omega)]; exact hwords.out k hkl
      have hxk := hall.out k hkl
      have hnum := Lib.hid (nums_succ xs k hkl)
      have hTr : RowKit.Hid (wr.cell? ⟨6, 15, none⟩ = some (.int .u8 4)) := by
        unfold RowKit.Hid
        rw [HBEL.out.cell (by show 6 < _; have := h6.out; omega), hb0.out.cell (by exact h6.out)]; exact HT.out
      generalize xs[k] = q at hcell hxk hnum
      generalize hdq : dig q = d at hcell
      have HDQ := Lib.hid hdq
      clear hdq hkl
      go_wp2_with fail
      refine (readdig_any d q _ hxk HDQ.out.symm hTr.out).mono ?_
      rintro e w1 ⟨rfl, hb1⟩
      have HBEL1 := Lib.hid (HBEL.out.trans (hb1.mono (by have := HBEL.out.size; rw [hsz.out] at this; exact this)))
      have HOWN1 := Lib.hid (owns_below HOWN.out hb1)
      clear hb1
      go_wp2_with (at_builtin; refine wpList_append_own _ rfl _ _ 46 rfl (w.heap.size + 1) 24 i0 (.float .f32 0) 1 4 Tryz.underlying46 hi hz0 hz1 hz2 rfl (by decide) _ _ _ rfl (HOWN1.out.alloc _) ⟨w1.heap.size, 0, none⟩ 1 1 [.float .f32 (bits32 q)] rfl rfl ?c1 ?c2 ?c3 ?c4 ?c5 ?_)
      case c1 =>
        intro j u hj
        match j, hj with
        | 0, hj => simp at hj; subst hj; rw [add_zero]; exact alloc_cell w1 _ _ 0
      case c2 => intro u hu; simp at hu; subst hu; rfl
      case c3 => unfold maxLen; omega
      case c4 => omega
      case c5 => have := HBEL1.out.size; rw [hsz.out] at this; simp; omega
      · intro v' w2 hown2 hgrow _
        have hle : w.heap.size + 1 ≤ w1.heap.size := by have := HBEL1.out.size; rw [hsz.out] at this; exact this
        have HB2 := Lib.hid ((HBEL1.out.alloc hle (.cells #[.float .f32 (bits32 q)] 24)).grown hgrow (by simp; omega) (fun q hq => (HOWN1.out.lt q hq).1))
        have HOWN2 := Lib.hid hown2
        clear hown2 hgrow hle
        go_wp2_with fail
        go_roundw
        case rel =>
          refine ⟨k + 1, by omega, by go_num, ?_, HB2.out⟩
          rw [hnum.out]
          exact HOWN2.out
        case measure => simp [intOf]; omega
    · have hke : k = 3 := by omega
      subst hke
      obtain ⟨g, cap, hv, hg1, hg2⟩ := HOWN.out.form (by omega)
      have hown2 := HOWN.out
      rw [hv, hn3.out] at hown2
      have c0 := Lib.hid (hown2.cellAt 0 (by omega))
      have c1 := Lib.hid (hown2.cellAt 1 (by omega))
      have c2 := Lib.hid (hown2.cellAt 2 (by omega))
      clear hown2
      rw [hv]
      clear hv HOWN
      go_wp2_with fail
      go_ret2
      refine ⟨g, cap, rfl, c0.out, c1.out, c2.out, hb0.out.trans (HBEL.out.mono (by omega))⟩
end Go.Proofs.YtpmecojegehikaaGreatDoor
