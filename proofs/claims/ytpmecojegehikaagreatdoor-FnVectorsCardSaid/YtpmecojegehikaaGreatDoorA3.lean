/- The walks of the source of choices. -/
import Derived.Test.YtpmecojegehikaaGreatDoorRows
import Derived.Test.YtpmecojegehikaaGreatDoorBase
namespace Go.Proofs.YtpmecojegehikaaGreatDoor
open Go.RowKit

/-- Of the blocks, only B may have turned. -/
structure Only (B : Nat) (w w' : World) : Prop where
  os : w'.os = w.os
  tape : w'.tape = w.tape
  output : w'.output = w.output
  size : w'.heap.size = w.heap.size
  block : ∀ k, k ≠ B → w'.heap[k]? = w.heap[k]?

theorem Only.refl (B : Nat) (w : World) : Only B w w := ⟨rfl, rfl, rfl, rfl, fun _ _ => rfl⟩
theorem Only.trans {B : Nat} {a b c : World} (h : Only B a b) (k : Only B b c) : Only B a c :=
  ⟨k.os.trans h.os, k.tape.trans h.tape, k.output.trans h.output, k.size.trans h.size, fun i hi => (k.block i hi).trans (h.block i hi)⟩
theorem Only.cell {B : Nat} {w w' : World} (h : Only B w w') {p : Addr} (hp : p.block ≠ B) : w'.cell? p = w.cell? p := World.cell?_of_block (w := w) (h.block p.block hp)
theorem Only.frozen {B : Nat} {w w' : World} (h : Only B w w') {p : Addr} (hp : p.block ≠ B) : w'.frozen? p = w.frozen? p := World.frozen?_of_block (w := w) (h.block p.block hp)
theorem Only.below {B C : Nat} {w w' : World} (h : Only B w w') (hB : C ≤ B) : Below C w w' := ⟨h.os, h.tape, h.output, by rw [h.size]; exact Nat.le_refl _, fun k hk => h.block k (by omega)⟩
theorem Only.drewN {B : Nat} {a w : World} (h : Only B a w) (n : Nat) : Only B a (w.drewN n) := ⟨h.os, h.tape, h.output, h.size, h.block⟩
theorem Only.setCell {B : Nat} {a w : World} (h : Only B a w) {p : Addr} (hp : p.block = B) (u : Value) : Only B a (w.setCell p u) :=
  h.trans ⟨rfl, rfl, rfl, by simp [World.setCell], fun k hk => Below.heap_setCell _ _ _ _ (by omega)⟩

/-- the source of choices in block B: bytes, an index, a seed -/
structure Src (w : World) (B : Nat) (a : Option Addr) (n c : Nat) (i s : Int) : Prop where
  code : w.cell? ⟨B, 0, none⟩ = some (.slice a n c)
  at_ : w.cell? ⟨B, 1, none⟩ = some (.int .i64 i)
  seed : w.cell? ⟨B, 2, none⟩ = some (.int .u64 s)
  f1 : w.frozen? ⟨B, 1, none⟩ = false
  f2 : w.frozen? ⟨B, 2, none⟩ = false

/-- what 'next' leaves: a number from 0 to 255; the index is one more; nothing else has turned -/
def NextPost (B : Nat) (a : Option Addr) (n c : Nat) (i : Int) (w : World) (e : Ending) (w' : World) : Prop :=
  ∃ v s', 0 ≤ v ∧ v ≤ 255 ∧ e = .returned (.int .i64 v) ∧ Src w' B a n c (i + 1) s' ∧ Only B w w'

theorem next_close {B : Nat} {a : Option Addr} {n c : Nat} {i s : Int} {w : World} (h : Src w B a n c i s) (k1 k2 : Nat) (s' : Int) :
    Src ((((w.drewN k1).setCell ⟨B, 1, none⟩ (.int .i64 (i + 1))).setCell ⟨B, 2, none⟩ (.int .u64 s')).drewN k2) B a n c (i + 1) s' ∧
      Only B w ((((w.drewN k1).setCell ⟨B, 1, none⟩ (.int .i64 (i + 1))).setCell ⟨B, 2, none⟩ (.int .u64 s')).drewN k2) := by
  obtain ⟨hc, ha, hs, f1, f2⟩ := h
  refine ⟨⟨?_, ?_, ?_, ?_, ?_⟩, ?_⟩
  · rw [World.cell?_drewN, World.cell?_setCell_other _ _ _ _ (by simp), World.cell?_setCell_other _ _ _ _ (by simp), World.cell?_drewN]; exact hc
  · rw [World.cell?_drewN, World.cell?_setCell_other _ _ _ _ (by simp)]
    exact World.cell?_setCell_same _ _ _ (u := .int .i64 i) (by rw [World.cell?_drewN]; exact ha)
  · rw [World.cell?_drewN]
    exact World.cell?_setCell_same _ _ _ (u := .int .u64 s) (by rw [World.cell?_setCell_other _ _ _ _ (by simp), World.cell?_drewN]; exact hs)
  · simpa using f1
  · simpa using f2
  · exact ((((Only.refl B w).drewN k1).setCell rfl _).setCell rfl _).drewN k2

set_option maxHeartbeats 1000000 in
theorem next_in (B : Nat) (b off n c : Nat) (i s : Int) (v : Int) (w : World) (hsrc : Src w B (some ⟨b, off, none⟩) n c i s)
    (h0 : 0 ≤ i) (hi : i < (n : Int)) (hn : (n : Int) ≤ 4611686018427387904)
    (hv : w.cell? ⟨b, off + i.toNat, none⟩ = some (.int .u8 v)) (hv0 : 0 ≤ v) (hv1 : v ≤ 255) :
    Calls Tryz.prog 31 #[.pointer (some ⟨B, 0, none⟩)] w (NextPost B (some ⟨b, off, none⟩) n c i w) := by
  have HS := Lib.hid hsrc
  obtain ⟨hc, ha, hs, f1, f2⟩ := hsrc
  go_enter Tryz.func31, Tryz.ntmps31
  go_wp2_with fail
  go_quiet (fail)
  go_wp2_with fail
  go_quiet (fail)
  go_wp2_with fail
  go_quiet (fail)
  go_wp2_with fail
  go_ret
  exact ⟨v, _, hv0, hv1, rfl, next_close HS.out _ _ _⟩

theorem and255 (x : Int) : 0 ≤ bits .and .u64 x 255 ∧ bits .and .u64 x 255 ≤ 255 := by
  have h : (BitVec.ofInt 64 x &&& BitVec.ofInt 64 255).toNat ≤ 255 := by
    rw [BitVec.toNat_and]
    exact Nat.and_le_right
  have e : bits .and .u64 x 255 = IntKind.u64.wrap ((BitVec.ofInt 64 x &&& BitVec.ofInt 64 255).toNat : Int) := rfl
  rw [e]
  generalize (BitVec.ofInt 64 x &&& BitVec.ofInt 64 255).toNat = m at h
  have e2 : IntKind.u64.wrap (m : Int) = m := by
    simp [IntKind.wrap, IntKind.bits, IntKind.signed]
    omega
  rw [e2]; omega

set_option maxHeartbeats 1000000 in
theorem next_out (B : Nat) (a : Option Addr) (n c : Nat) (i s : Int) (w : World) (hsrc : Src w B a n c i s)
    (hi0 : 0 ≤ i) (hi : (n : Int) ≤ i) (hn : i ≤ 4611686018427387904) :
    Calls Tryz.prog 31 #[.pointer (some ⟨B, 0, none⟩)] w (NextPost B a n c i w) := by
  have HS := Lib.hid hsrc
  obtain ⟨hc, ha, hs, f1, f2⟩ := hsrc
  have hd : decide (i < (n : Int)) = false := by simp; omega
  have hd2 : decide (i + 1 ≤ (n : Int)) = false := by simp; omega
  go_enter Tryz.func31, Tryz.ntmps31
  go_wp2_with fail
  go_quiet (fail)
  go_wp2_with fail
  go_quiet (fail)
  go_wp2_with fail
  go_ret
  have h255 := and255 (IntKind.u64.wrap (IntKind.u64.wrap (IntKind.u64.wrap (s * 6364136223846793005)) + 1442695040888963407) / 1099511627776)
  refine ⟨_, _, ?_, ?_, rfl, next_close HS.out _ _ _⟩
  · rw [IntWalk.wrap64_in _ ⟨by omega, by omega⟩]; exact h255.1
  · rw [IntWalk.wrap64_in _ ⟨by omega, by omega⟩]; exact h255.2

/-- n bytes lie at a, in a block below B -/
def Bytes (w : World) (a : Option Addr) (n B : Nat) : Prop :=
  n = 0 ∨ ∃ b off, a = some ⟨b, off, none⟩ ∧ b < B ∧ ∀ j, j < n → ∃ v : Int, 0 ≤ v ∧ v ≤ 255 ∧ w.cell? ⟨b, off + j, none⟩ = some (.int .u8 v)

theorem Bytes.only {w w' : World} {a : Option Addr} {n B : Nat} (h : Bytes w a n B) (ho : Only B w w') : Bytes w' a n B := by
  rcases h with h | ⟨b, off, ha, hb, hv⟩
  · exact Or.inl h
  · refine Or.inr ⟨b, off, ha, hb, fun j hj => ?_⟩
    obtain ⟨v, h0, h1, hc⟩ := hv j hj
    exact ⟨v, h0, h1, by rw [ho.cell (by show b ≠ B; omega)]; exact hc⟩

theorem Bytes.below {w w' : World} {a : Option Addr} {n B : Nat} (h : Bytes w a n B) (ho : Below B w w') : Bytes w' a n B := by
  rcases h with h | ⟨b, off, ha, hb, hv⟩
  · exact Or.inl h
  · refine Or.inr ⟨b, off, ha, hb, fun j hj => ?_⟩
    obtain ⟨v, h0, h1, hc⟩ := hv j hj
    exact ⟨v, h0, h1, by rw [ho.cell (by show b < B; omega)]; exact hc⟩

theorem next_any (B : Nat) (a : Option Addr) (n c : Nat) (i s : Int) (w : World) (hsrc : Src w B a n c i s) (hb : Bytes w a n B)
    (h0 : 0 ≤ i) (hi : i ≤ 4611686018427387904) (hn : (n : Int) ≤ 4611686018427387904) :
    Calls Tryz.prog 31 #[.pointer (some ⟨B, 0, none⟩)] w (NextPost B a n c i w) := by
  by_cases hlt : i < (n : Int)
  · rcases hb with hb | ⟨b, off, rfl, hbB, hv⟩
    · omega
    · obtain ⟨v, v0, v1, hc⟩ := hv i.toNat (by omega)
      exact next_in B b off n c i s v w hsrc h0 hlt hn hc v0 v1
  · exact next_out B a n c i s w hsrc h0 (by omega) hi

/-- what 'pick' leaves -/
def PickPost (B : Nat) (a : Option Addr) (n c : Nat) (i k : Int) (w : World) (e : Ending) (w' : World) : Prop :=
  ∃ v i' s', 0 ≤ v ∧ v < k ∧ e = .returned (.int .i64 v) ∧ Src w' B a n c i' s' ∧ Only B w w' ∧ i ≤ i' ∧ i' ≤ i + 2

set_option maxHeartbeats 1000000 in
theorem pick_any (B : Nat) (a : Option Addr) (n c : Nat) (i s k : Int) (w : World) (hsrc : Src w B a n c i s) (hb : Bytes w a n B)
    (h0 : 0 ≤ i) (hi : i ≤ 4611686018427387000) (hn : (n : Int) ≤ 4611686018427387904) (hk : 2 ≤ k) (hk2 : k ≤ 65536) :
    Calls Tryz.prog 22 #[.pointer (some ⟨B, 0, none⟩), .int .i64 k] w (PickPost B a n c i k w) := by
  have HS := Lib.hid hsrc
  have HB := Lib.hid hb
  clear hsrc hb
  by_cases hbig : 200 < k
  · go_enter Tryz.func22, Tryz.ntmps22
    go_wp2_with fail
    refine (next_any B a n c i s _ HS.out HB.out h0 (by omega) hn).mono ?_
    rintro e w1 ⟨v, s1, v0, v1, rfl, hs1, ho1⟩
    have HS1 := Lib.hid hs1
    have HB1 := Lib.hid (HB.out.only ho1)
    have HO1 := Lib.hid ho1
    clear hs1 ho1
    go_wp2_with fail
    refine (next_any B a n c (i + 1) s1 _ HS1.out HB1.out (by omega) (by omega) hn).mono ?_
    rintro e w2 ⟨v2, s2, v20, v21, rfl, hs2, ho2⟩
    have HS2 := Lib.hid hs2
    have HO2 := Lib.hid ho2
    clear hs2 ho2
    go_wp2_with fail
    go_ret
    refine ⟨_, i + 1 + 1, s2, ?_, ?_, rfl, HS2.out, HO1.out.trans HO2.out, by omega, by omega⟩
    · exact Int.emod_nonneg _ (by omega)
    · exact Int.emod_lt_of_pos _ (by omega)
  · go_enter Tryz.func22, Tryz.ntmps22
    go_wp2_with fail
    refine (next_any B a n c i s _ HS.out HB.out h0 (by omega) hn).mono ?_
    rintro e w1 ⟨v, s1, v0, v1, rfl, hs1, ho1⟩
    have HS1 := Lib.hid hs1
    have HO1 := Lib.hid ho1
    clear hs1 ho1
    go_wp2_with fail
    go_ret
    refine ⟨_, i + 1, s1, ?_, ?_, rfl, HS1.out, HO1.out, by omega, by omega⟩
    · exact Int.emod_nonneg _ (by omega)
    · exact Int.emod_lt_of_pos _ (by omega)
end Go.Proofs.YtpmecojegehikaaGreatDoor
