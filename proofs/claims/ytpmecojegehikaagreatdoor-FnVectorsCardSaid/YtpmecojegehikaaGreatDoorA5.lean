/- The walks of the draws of strange numbers and of vectors. -/
import Derived.Test.YtpmecojegehikaaGreatDoorA4
namespace Go.Proofs.YtpmecojegehikaaGreatDoor
open Go.RowKit

theorem u32_lt (k : Int) : (IntKind.u32.wrap k).toNat < 4294967296 := by
  simp [IntKind.wrap, IntKind.bits, IntKind.signed]; omega

theorem cells_new (w : World) (zs : List Int) (T : TypeId) (j : Nat) (h : j < zs.length) :
    (w.alloc (.cells (zs.map (Value.int .i64)).toArray T)).cell? ⟨w.heap.size, j, none⟩ = some (.int .i64 zs[j]) := by
  unfold World.cell?
  rw [show (w.alloc (.cells (zs.map (Value.int .i64)).toArray T)).heap = w.heap.push (.cells (zs.map (Value.int .i64)).toArray T) from rfl, Array.getElem?_push_size]
  simp [h]

def AnyF (_ : Nat) : Prop := True

set_option maxHeartbeats 2000000 in
theorem float_any (B : Nat) (a : Option Addr) (n c : Nat) (i s : Int) (w : World) (hsrc : Src w B a n c i s) (hb : Bytes w a n B)
    (h0 : 0 ≤ i) (hi : i ≤ 4611686018427370000) (hn : (n : Int) ≤ 4611686018427387904) :
    Calls Tryz.prog 37 #[.pointer (some ⟨B, 0, none⟩)] w (FloatPost AnyF B a n c i 20 w) := by
  have HS := Lib.hid hsrc
  have HB := Lib.hid hb
  clear hsrc hb
  go_enter Tryz.func37, Tryz.ntmps37
  go_wp2_with fail
  refine (one_any B a n c i s 12 _ HS.out HB.out h0 (by omega) hn (by omega) (by omega)).mono ?_
  rintro e w1 ⟨t, i1, s1, rfl, hs1, ho1, hi1, hi2⟩
  have HS1 := Lib.hid hs1
  have HB1 := Lib.hid (HB.out.only ho1)
  have HO1 := Lib.hid ho1
  clear hs1 ho1
  cases t
  · go_wp2_with fail
    refine (plain_any B a n c i1 s1 _ HS1.out HB1.out (by omega) (by omega) hn).mono ?_
    rintro e w2 ⟨r, i2, s2, r1, r2, rfl, hs2, ho2, hi3, hi4⟩
    have HS2 := Lib.hid hs2
    have HO2 := Lib.hid ho2
    clear hs2 ho2
    go_wp2_with fail
    go_ret
    exact ⟨_, i2, s2, r1, trivial, rfl, HS2.out, HO1.out.keeps.trans HO2.out, by omega, by omega⟩
  · go_wp2_with fail
    refine (pick_any B a n c i1 s1 4 _ HS1.out HB1.out (by omega) (by omega) hn (by omega) (by omega)).mono ?_
    rintro e w2 ⟨v, i2, s2, v0, v1, rfl, hs2, ho2, hi3, hi4⟩
    have HS2 := Lib.hid hs2
    have HB2 := Lib.hid (HB1.out.only ho2)
    have HO2 := Lib.hid (HO1.out.trans ho2)
    clear hs2 ho2
    have hcase : v = 0 ∨ v = 1 ∨ v = 2 ∨ v = 3 := by omega
    clear v0 v1
    rcases hcase with rfl | rfl | rfl | rfl
    · go_wp2_with fail
      refine (among_any [0, 2147483648, 2139095040, 4286578688, 2143289344, 1, 2139095039, 8388608, 8388607, 2147483649] B w2.heap.size 10 a n c i2 s2 _ (HS2.out.alloc HS2.out.lt _) (HB2.out.keeps (Keeps.alloc B w2 _) (Nat.le_of_lt HS2.out.lt)) (by omega) (by omega) hn (Nat.ne_of_gt HS2.out.lt) (cells_new w2 _ 2) (by decide) (by decide)).mono ?_
      rintro e w3 ⟨q, i3, s3, hq, rfl, hs3, ho3, hi5, hi6⟩
      have HS3 := Lib.hid hs3
      have HO3 := Lib.hid ((HO2.out.keeps.trans (Keeps.alloc B w2 _)).trans ho3.keeps)
      clear hs3 ho3 hq
      go_wp2_with fail
      refine (from_any _ _).mono ?_
      rintro e w4 ⟨rfl, rfl⟩
      go_wp2_with fail
      go_ret
      exact ⟨_, i3, s3, u32_lt _, trivial, rfl, HS3.out, HO3.out, by omega, by omega⟩
    · go_wp2_with fail
      refine (pick_any B a n c i2 s2 65536 _ HS2.out HB2.out (by omega) (by omega) hn (by omega) (by omega)).mono ?_
      rintro e w3 ⟨v, i3, s3, v0, v1, rfl, hs3, ho3, hi5, hi6⟩
      have HS3 := Lib.hid hs3
      have HB3 := Lib.hid (HB2.out.only ho3)
      have HO3 := Lib.hid (HO2.out.trans ho3)
      clear hs3 ho3
      go_wp2_with fail
      refine (pick_any B a n c i3 s3 65536 _ HS3.out HB3.out (by omega) (by omega) hn (by omega) (by omega)).mono ?_
      rintro e w4 ⟨u, i4, s4, u0, u1, rfl, hs4, ho4, hi7, hi8⟩
      have HS4 := Lib.hid hs4
      have HO4 := Lib.hid (HO3.out.trans ho4)
      clear hs4 ho4
      go_wp2_with fail
      refine (from_any _ _).mono ?_
      rintro e w5 ⟨rfl, rfl⟩
      go_wp2_with fail
      go_ret
      exact ⟨_, i4, s4, u32_lt _, trivial, rfl, HS4.out, HO4.out.keeps, by omega, by omega⟩
    · go_wp2_with fail
      refine (pick_any B a n c i2 s2 65536 _ HS2.out HB2.out (by omega) (by omega) hn (by omega) (by omega)).mono ?_
      rintro e w3 ⟨v, i3, s3, v0, v1, rfl, hs3, ho3, hi5, hi6⟩
      have HS3 := Lib.hid hs3
      have HO3 := Lib.hid (HO2.out.trans ho3)
      clear hs3 ho3
      go_wp2_with fail
      refine (from_any _ _).mono ?_
      rintro e w5 ⟨rfl, rfl⟩
      go_wp2_with fail
      go_ret
      exact ⟨_, i3, s3, u32_lt _, trivial, rfl, HS3.out, HO3.out.keeps, by omega, by omega⟩
    · go_wp2_with fail
      refine (plain_any B a n c i2 s2 _ HS2.out HB2.out (by omega) (by omega) hn).mono ?_
      rintro e w3 ⟨r, i3, s3, r1, r2, rfl, hs3, ho3, hi5, hi6⟩
      have HS3 := Lib.hid hs3
      have HB3 := Lib.hid (HB2.out.keeps ho3 (Nat.le_of_lt HS2.out.lt))
      have HO3 := Lib.hid (HO2.out.keeps.trans ho3)
      have HR := Lib.hid r2
      clear hs3 ho3 r2
      go_wp2_with fail
      refine (among_any [8388608, 2130706432, 1610612736, 536870912] B w3.heap.size 4 a n c i3 s3 _ (HS3.out.alloc HS3.out.lt _) (HB3.out.keeps (Keeps.alloc B w3 _) (Nat.le_of_lt HS3.out.lt)) (by omega) (by omega) hn (Nat.ne_of_gt HS3.out.lt) (cells_new w3 _ 2) (by decide) (by decide)).mono ?_
      rintro e w4 ⟨q, i4, s4, hq, rfl, hs4, ho4, hi7, hi8⟩
      have HS4 := Lib.hid hs4
      have HO4 := Lib.hid ((HO3.out.trans (Keeps.alloc B w3 _)).trans ho4.keeps)
      have hm : ∃ p, floatBits .mul .f32 r (IntKind.u32.wrap q).toNat = some p ∧ p < 4294967296 := by
        have hq' : q = 8388608 ∨ q = 2130706432 ∨ q = 1610612736 ∨ q = 536870912 := by simpa using hq
        rcases hq' with rfl | rfl | rfl | rfl
        · exact mul_some (s := false) (m := 8388608) (e := -149) HR.out (by decide +kernel) (by decide)
        · exact mul_some (s := false) (m := 8388608) (e := 104) HR.out (by decide +kernel) (by decide)
        · exact mul_some (s := false) (m := 8388608) (e := 42) HR.out (by decide +kernel) (by decide)
        · exact mul_some (s := false) (m := 8388608) (e := -86) HR.out (by decide +kernel) (by decide)
      obtain ⟨p, hp, hp1⟩ := hm
      have hq2 := opf (P := Tryz.prog) _ _ _ _ _ hp
      clear hs4 ho4 hq hp
      go_wp2_with fail
      refine (from_any _ _).mono ?_
      rintro e w5 ⟨rfl, rfl⟩
      go_wp2_with fail
      go_ret
      exact ⟨_, i4, s4, hp1, trivial, rfl, HS4.out, HO4.out, by omega, by omega⟩
end Go.Proofs.YtpmecojegehikaaGreatDoor
