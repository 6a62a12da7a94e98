/- The walks of the draws of numbers and vectors. -/
import Derived.Test.YtpmecojegehikaaGreatDoorA3
import Derived.Test.YtpmecojegehikaaGreatDoorA2
import Derived.Test.YtpmecojegehikaaGreatDoorFl
namespace Go.Proofs.YtpmecojegehikaaGreatDoor
open Go.RowKit

/-- Of the blocks that were there only B may have turned. -/
structure Keeps (B : Nat) (w w' : World) : Prop where
  os : w'.os = w.os
  tape : w'.tape = w.tape
  output : w'.output = w.output
  size : w.heap.size ≤ w'.heap.size
  block : ∀ k, k < w.heap.size → k ≠ B → w'.heap[k]? = w.heap[k]?

theorem Keeps.refl (B : Nat) (w : World) : Keeps B w w := ⟨rfl, rfl, rfl, Nat.le_refl _, fun _ _ _ => rfl⟩
theorem Keeps.trans {B : Nat} {a b c : World} (h : Keeps B a b) (k : Keeps B b c) : Keeps B a c :=
  ⟨k.os.trans h.os, k.tape.trans h.tape, k.output.trans h.output, Nat.le_trans h.size k.size, fun i hi hb => (k.block i (Nat.lt_of_lt_of_le hi h.size) hb).trans (h.block i hi hb)⟩
theorem Only.keeps {B : Nat} {w w' : World} (h : Only B w w') : Keeps B w w' := ⟨h.os, h.tape, h.output, by rw [h.size]; exact Nat.le_refl _, fun k _ hb => h.block k hb⟩
theorem Keeps.alloc (B : Nat) (w : World) (o : Obj) : Keeps B w (w.alloc o) := ⟨rfl, rfl, rfl, by simp, fun k hk _ => Below.heap_alloc _ _ _ hk⟩
theorem Keeps.cell {B : Nat} {w w' : World} (h : Keeps B w w') {p : Addr} (hp : p.block < w.heap.size) (hb : p.block ≠ B) : w'.cell? p = w.cell? p := World.cell?_of_block (w := w) (h.block p.block hp hb)
theorem Keeps.frozen {B : Nat} {w w' : World} (h : Keeps B w w') {p : Addr} (hp : p.block < w.heap.size) (hb : p.block ≠ B) : w'.frozen? p = w.frozen? p := World.frozen?_of_block (w := w) (h.block p.block hp hb)
theorem Keeps.below {B C : Nat} {w w' : World} (h : Keeps B w w') (hB : C ≤ B) (hC : C ≤ w.heap.size) : Below C w w' := ⟨h.os, h.tape, h.output, h.size, fun k hk => h.block k (by omega) (by omega)⟩
theorem Bytes.keeps {w w' : World} {a : Option Addr} {n B : Nat} (h : Bytes w a n B) (ho : Keeps B w w') (hB : B ≤ w.heap.size) : Bytes w' a n B := h.below (ho.below (Nat.le_refl _) hB)
theorem Src.alloc {w : World} {B : Nat} {a : Option Addr} {n c : Nat} {i s : Int} (h : Src w B a n c i s) (hB : B < w.heap.size) (o : Obj) : Src (w.alloc o) B a n c i s := by
  have e : ∀ k, (w.alloc o).cell? ⟨B, k, none⟩ = w.cell? ⟨B, k, none⟩ := fun k => ((Below.refl B w).alloc (by omega) o |>.block) |> fun _ => World.cell?_of_block (w := w) (Below.heap_alloc w o B hB)
  have g : ∀ k, (w.alloc o).frozen? ⟨B, k, none⟩ = w.frozen? ⟨B, k, none⟩ := fun k => World.frozen?_of_block (w := w) (Below.heap_alloc w o B hB)
  exact ⟨by rw [e]; exact h.code, by rw [e]; exact h.at_, by rw [e]; exact h.seed, by rw [g]; exact h.f1, by rw [g]; exact h.f2⟩
theorem Src.lt {w : World} {B : Nat} {a : Option Addr} {n c : Nat} {i s : Int} (h : Src w B a n c i s) : B < w.heap.size := World.block_lt_of_cell? w ⟨B, 0, none⟩ h.code

/-- what a draw of one number leaves -/
def FloatPost (N : Nat → Prop) (B : Nat) (a : Option Addr) (n c : Nat) (i d : Int) (w : World) (e : Ending) (w' : World) : Prop :=
  ∃ r i' s', r < 4294967296 ∧ N r ∧ e = .returned (.float .f32 r) ∧ Src w' B a n c i' s' ∧ Keeps B w w' ∧ i ≤ i' ∧ i' ≤ i + d

def OnePost (B : Nat) (a : Option Addr) (n c : Nat) (i : Int) (w : World) (e : Ending) (w' : World) : Prop :=
  ∃ (t : Bool) (i' s' : Int), e = .returned (.bool t) ∧ Src w' B a n c i' s' ∧ Only B w w' ∧ i ≤ i' ∧ i' ≤ i + 2

set_option maxHeartbeats 1000000 in
theorem one_any (B : Nat) (a : Option Addr) (n c : Nat) (i s k : Int) (w : World) (hsrc : Src w B a n c i s) (hb : Bytes w a n B)
    (h0 : 0 ≤ i) (hi : i ≤ 4611686018427387000) (hn : (n : Int) ≤ 4611686018427387904) (hk : 2 ≤ k) (hk2 : k ≤ 65536) :
    Calls Tryz.prog 35 #[.pointer (some ⟨B, 0, none⟩), .int .i64 k] w (OnePost B a n c i w) := by
  have HS := Lib.hid hsrc
  have HB := Lib.hid hb
  clear hsrc hb
  go_enter Tryz.func35, Tryz.ntmps35
  go_wp2_with fail
  refine (pick_any B a n c i s k _ HS.out HB.out h0 hi hn hk hk2).mono ?_
  rintro e w1 ⟨v, i1, s1, v0, v1, rfl, hs1, ho1, hi1, hi2⟩
  have HS1 := Lib.hid hs1
  have HO1 := Lib.hid ho1
  clear hs1 ho1
  go_wp2_with fail
  go_ret
  exact ⟨_, i1, s1, rfl, HS1.out, HO1.out, hi1, hi2⟩

set_option maxHeartbeats 400000 in
theorem from_any (k : Int) (w : World) : Calls Tryz.prog 47 #[.int .i64 k] w fun e w' => e = .returned (.float .f32 (IntKind.u32.wrap k).toNat) ∧ w = w' := by
  have hf := from_entry
  go_enter Tryz.func47, Tryz.ntmps47
  go_wp2
  go_ret
  exact ⟨rfl, rfl⟩

def AmongPost (zs : List Int) (B : Nat) (a : Option Addr) (n c : Nat) (i : Int) (w : World) (e : Ending) (w' : World) : Prop :=
  ∃ v i' s', v ∈ zs ∧ e = .returned (.int .i64 v) ∧ Src w' B a n c i' s' ∧ Only B w w' ∧ i ≤ i' ∧ i' ≤ i + 2

set_option maxHeartbeats 1000000 in
theorem among_any (zs : List Int) (B b C : Nat) (a : Option Addr) (n c : Nat) (i s : Int) (w : World) (hsrc : Src w B a n c i s) (hb : Bytes w a n B)
    (h0 : 0 ≤ i) (hi : i ≤ 4611686018427387000) (hn : (n : Int) ≤ 4611686018427387904) (hbB : b ≠ B)
    (hz : ∀ j : Nat, (h : j < zs.length) → w.cell? ⟨b, j, none⟩ = some (.int .i64 zs[j])) (hl : 2 ≤ zs.length) (hl2 : zs.length ≤ 65536) :
    Calls Tryz.prog 48 #[.pointer (some ⟨B, 0, none⟩), .slice (some ⟨b, 0, none⟩) zs.length C] w (AmongPost zs B a n c i w) := by
  have HS := Lib.hid hsrc
  have HB := Lib.hid hb
  have HZ := Lib.hid hz
  clear hsrc hb hz
  go_enter Tryz.func48, Tryz.ntmps48
  go_wp2_with fail
  refine (pick_any B a n c i s zs.length _ HS.out HB.out h0 hi hn (by omega) (by omega)).mono ?_
  rintro e w1 ⟨v, i1, s1, v0, v1, rfl, hs1, ho1, hi1, hi2⟩
  have HS1 := Lib.hid hs1
  have HO1 := Lib.hid ho1
  have hcell : w1.cell? ⟨b, v.toNat, none⟩ = some (.int .i64 (zs[v.toNat]'(by omega))) := by
    rw [ho1.cell (by exact hbB)]; exact HZ.out v.toNat (by omega)
  have hmem : Hid (zs[v.toNat]'(by omega) ∈ zs) := List.getElem_mem _
  clear hs1 ho1 HZ
  generalize zs[v.toNat]'(by omega) = q at hcell hmem
  go_wp2_with fail
  go_ret
  exact ⟨_, i1, s1, hmem.out, rfl, HS1.out, HO1.out, hi1, hi2⟩

/-! ### draws of numbers -/
theorem nearest_nn (f : Ieee.Format) (neg : Bool) (mag : Nat) (place : Int) : (f.read (f.nearest neg mag place)).isNaN = false := by
  have hb : 0 < f.binade := Nat.two_pow_pos _
  have key : ∀ r, r ≤ f.infRung → (f.read (f.word neg r)).isNaN = false := by
    intro r hr
    rw [Fl.read_word f neg r (Nat.lt_of_le_of_lt hr f.infRung_lt)]
    by_cases h1 : r < f.binade
    · rw [if_pos h1]; rfl
    · rw [if_neg h1]
      by_cases h2 : r < f.infRung
      · rw [if_pos h2]; rfl
      · rw [if_neg h2, if_pos (by omega)]; rfl
  unfold Ieee.Format.nearest
  split
  · exact key 0 (Nat.zero_le _)
  · exact key _ (Nat.min_le_right _ _)

/-- a float that is no not-a-number -/
def Nn (x : Nat) : Prop := (Ieee.single.read x).isNaN = false

theorem div_some {x y : Nat} {v : Rat} {s : Bool} {m : Nat} {e : Int} (hx : Fl.Fin Ieee.single x v) (hy : Ieee.single.read y = .number s m e) (hm : m ≠ 0) :
    ∃ r, floatBits .quo .f32 x y = some r ∧ r < 4294967296 ∧ Nn r := by
  obtain ⟨t, n, j, hx, _⟩ := hx
  have h : floatBits .quo .f32 x y = Ieee.single.div x y := rfl
  rw [h]
  unfold Ieee.Format.div
  rw [hx, hy]
  simp only [Ieee.Datum.quotient, if_neg hm]
  exact ⟨_, rfl, Ieee.single.nearest_lt _ _ _, nearest_nn _ _ _ _⟩

theorem mul_some {x y : Nat} {s : Bool} {m : Nat} {e : Int} (hx : Nn x) (hy : Ieee.single.read y = .number s m e) (hm : m ≠ 0) :
    ∃ r, floatBits .mul .f32 x y = some r ∧ r < 4294967296 := by
  have h : floatBits .mul .f32 x y = Ieee.single.mul x y := rfl
  rw [h]
  unfold Ieee.Format.mul
  rw [hy]
  unfold Nn at hx
  cases hd : Ieee.single.read x with
  | number t n j => exact ⟨_, rfl, Ieee.single.nearest_lt _ _ _⟩
  | infinity t =>
    refine ⟨_, ?_, Ieee.single.write_lt (.infinity (t ^^ s))⟩
    simp only [Ieee.Datum.product, if_neg hm, Option.map_some]
  | nan t n => rw [hd] at hx; cases hx

theorem int_word (n : Int) (h : n.natAbs ≤ 16777215) : Fl.Whole Ieee.single (floatOfInt .f32 n) n := Fl.whole_int Fl.small_single n h

theorem int_div (n : Int) (h : n.natAbs ≤ 16777215) {y : Nat} {s : Bool} {m : Nat} {e : Int} (hy : Ieee.single.read y = .number s m e) (hm : m ≠ 0) :
    ∃ r, floatBits .quo .f32 (floatOfInt .f32 n) y = some r ∧ r < 4294967296 ∧ Nn r := div_some (int_word n h) hy hm

set_option maxHeartbeats 1000000 in
theorem small_any (B : Nat) (a : Option Addr) (n c : Nat) (i s : Int) (w : World) (hsrc : Src w B a n c i s) (hb : Bytes w a n B)
    (h0 : 0 ≤ i) (hi : i ≤ 4611686018427387000) (hn : (n : Int) ≤ 4611686018427387904) :
    Calls Tryz.prog 36 #[.pointer (some ⟨B, 0, none⟩)] w (FloatPost Nn B a n c i 2 w) := by
  have HS := Lib.hid hsrc
  have HB := Lib.hid hb
  clear hsrc hb
  go_enter Tryz.func36, Tryz.ntmps36
  go_wp2_with fail
  refine (pick_any B a n c i s 33 _ HS.out HB.out h0 hi hn (by omega) (by omega)).mono ?_
  rintro e w1 ⟨v, i1, s1, v0, v1, rfl, hs1, ho1, hi1, hi2⟩
  have HS1 := Lib.hid hs1
  have HO1 := Lib.hid ho1
  clear hs1 ho1
  obtain ⟨r, hr, r1, r2⟩ := int_div (v - 16) (by omega) (y := 1082130432) (s := false) (m := 8388608) (e := -21) (by decide +kernel) (by decide)
  have hq := opf (P := Tryz.prog) _ _ _ _ _ hr
  clear hr
  go_wp2_with fail
  go_ret
  exact ⟨_, i1, s1, r1, r2, rfl, HS1.out, HO1.out.keeps, hi1, hi2⟩

set_option maxHeartbeats 1000000 in
theorem plain_any (B : Nat) (a : Option Addr) (n c : Nat) (i s : Int) (w : World) (hsrc : Src w B a n c i s) (hb : Bytes w a n B)
    (h0 : 0 ≤ i) (hi : i ≤ 4611686018427380000) (hn : (n : Int) ≤ 4611686018427387904) :
    Calls Tryz.prog 46 #[.pointer (some ⟨B, 0, none⟩)] w (FloatPost Nn B a n c i 4 w) := by
  have HS := Lib.hid hsrc
  have HB := Lib.hid hb
  clear hsrc hb
  go_enter Tryz.func46, Tryz.ntmps46
  go_wp2_with fail
  refine (pick_any B a n c i s 129 _ HS.out HB.out h0 (by omega) hn (by omega) (by omega)).mono ?_
  rintro e w1 ⟨v, i1, s1, v0, v1, rfl, hs1, ho1, hi1, hi2⟩
  have HS1 := Lib.hid hs1
  have HB1 := Lib.hid (HB.out.only ho1)
  have HO1 := Lib.hid ho1
  clear hs1 ho1
  go_wp2_with fail
  refine (one_any B a n c i1 s1 4 _ HS1.out HB1.out (by omega) (by omega) hn (by omega) (by omega)).mono ?_
  rintro e w2 ⟨t, i2, s2, rfl, hs2, ho2, hi3, hi4⟩
  have HS2 := Lib.hid hs2
  have HO2 := Lib.hid ho2
  clear hs2 ho2
  obtain ⟨r, hr, r1, r2⟩ := int_div (v - 64) (by omega) (y := 1088421888) (s := false) (m := 14680064) (e := -21) (by decide +kernel) (by decide)
  have hq := opf (P := Tryz.prog) _ _ _ _ _ hr
  obtain ⟨r', hr', r1', r2'⟩ := int_div (v - 64) (by omega) (y := 1098907648) (s := false) (m := 8388608) (e := -19) (by decide +kernel) (by decide)
  have hq' := opf (P := Tryz.prog) _ _ _ _ _ hr'
  clear hr hr'
  cases t
  · go_wp2_with fail
    go_ret
    exact ⟨_, i2, s2, r1', r2', rfl, HS2.out, (HO1.out.trans HO2.out).keeps, by omega, by omega⟩
  · go_wp2_with fail
    go_ret
    exact ⟨_, i2, s2, r1, r2, rfl, HS2.out, (HO1.out.trans HO2.out).keeps, by omega, by omega⟩
end Go.Proofs.YtpmecojegehikaaGreatDoor
