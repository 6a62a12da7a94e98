/- The walk of the hexadecimal digits of a number. -/
import Derived.Test.YtpmecojegehikaaGreatDoorT1
import Derived.Test.YtpmecojegehikaaGreatDoorA6
namespace Go.Proofs.YtpmecojegehikaaGreatDoor
open Go.RowKit

/-- the sign of a hexadecimal digit -/
def hexd (d : Nat) : UInt8 := if d < 10 then UInt8.ofNat (48 + d) else UInt8.ofNat (87 + d)

/-- the last k hexadecimal digits of n -/
def low (n : Nat) : Nat → List UInt8
  | 0 => []
  | k + 1 => hexd (n / 16 ^ k % 16) :: low n k

theorem low_length (n : Nat) : ∀ k, (low n k).length = k
  | 0 => rfl
  | k + 1 => by simp [low, low_length n k]

/-- the row of 65 bytes in block B, of which the last are the bytes ds -/
structure Row65 (wr : World) (B : Nat) (ds : List UInt8) : Prop where
  any : ∀ j, j < 65 → ∃ v, wr.cell? ⟨B, j, none⟩ = some (.int .u8 v)
  free : ∀ j, j < 65 → wr.frozen? ⟨B, j, none⟩ = false
  last : ∀ j (h : j < ds.length), wr.cell? ⟨B, 65 - ds.length + j, none⟩ = some (.int .u8 (ds[j].toNat : Int))

theorem and15 (u : Nat) (h : u < 4294967296) : bits .and .u64 (u : Int) 15 = ((u % 16 : Nat) : Int) := by
  have e : bits .and .u64 (u : Int) 15 = IntKind.u64.wrap ((BitVec.ofInt 64 (u : Int) &&& BitVec.ofInt 64 15).toNat : Int) := rfl
  have e2 : (BitVec.ofInt 64 (u : Int) &&& BitVec.ofInt 64 15).toNat = u % 16 := by
    rw [BitVec.toNat_and]
    have h1 : (BitVec.ofInt 64 (u : Int)).toNat = u := by
      rw [BitVec.ofInt_natCast, BitVec.toNat_ofNat]; omega
    have h2 : (BitVec.ofInt 64 15).toNat = 2 ^ 4 - 1 := by decide
    rw [h1, h2, Nat.and_two_pow_sub_one_eq_mod]
  rw [e, e2, IntKind.wrap_u64]; omega

theorem hex_at (d : Nat) (h : d < (⟨#[48, 49, 50, 51, 52, 53, 54, 55, 56, 57, 97, 98, 99, 100, 101, 102, 103, 104, 105, 106, 107, 108, 109, 110, 111, 112, 113, 114, 115, 116, 117, 118, 119, 120, 121, 122]⟩ : ByteArray).size) (h16 : d < 16) :
    (⟨#[48, 49, 50, 51, 52, 53, 54, 55, 56, 57, 97, 98, 99, 100, 101, 102, 103, 104, 105, 106, 107, 108, 109, 110, 111, 112, 113, 114, 115, 116, 117, 118, 119, 120, 121, 122]⟩ : ByteArray)[d] = hexd d := by
  have hc : d = 0 ∨ d = 1 ∨ d = 2 ∨ d = 3 ∨ d = 4 ∨ d = 5 ∨ d = 6 ∨ d = 7 ∨ d = 8 ∨ d = 9 ∨ d = 10 ∨ d = 11 ∨ d = 12 ∨ d = 13 ∨ d = 14 ∨ d = 15 := by omega
  rcases hc with rfl | rfl | rfl | rfl | rfl | rfl | rfl | rfl | rfl | rfl | rfl | rfl | rfl | rfl | rfl | rfl <;> rfl

theorem row_store {wr : World} {B : Nat} {ds : List UInt8} (h : Row65 wr B ds) (hl : ds.length < 65) (b : UInt8) :
    Row65 (wr.setCell ⟨B, 65 - ds.length - 1, none⟩ (.int .u8 (b.toNat : Int))) B (b :: ds) := by
  refine ⟨fun j hj => ?_, fun j hj => ?_, fun j hj => ?_⟩
  · by_cases e : j = 65 - ds.length - 1
    · obtain ⟨v, hv⟩ := h.any j hj
      subst e
      exact ⟨_, World.cell?_setCell_same _ _ _ hv⟩
    · obtain ⟨v, hv⟩ := h.any j hj
      exact ⟨v, by rw [World.cell?_setCell_other _ _ _ _ (by intro hh; injection hh; omega)]; exact hv⟩
  · rw [World.frozen?_setCell]; exact h.free j hj
  · simp only [List.length_cons] at hj ⊢
    match j, hj with
    | 0, _ =>
      obtain ⟨v, hv⟩ := h.any (65 - ds.length - 1) (by omega)
      rw [show 65 - (ds.length + 1) + 0 = 65 - ds.length - 1 by omega]
      exact World.cell?_setCell_same _ _ _ hv
    | j + 1, hj =>
      rw [show 65 - (ds.length + 1) + (j + 1) = 65 - ds.length + j by omega, World.cell?_setCell_other _ _ _ _ (by intro hh; injection hh; omega)]
      exact h.last j (by omega)

theorem pow16_bound {n k u : Nat} (hn : n < 4294967296) (hk : k ≤ 7) (hu : n / 16 ^ k = u) (hge : 16 ≤ u) : k + 1 ≤ 7 := by
  by_cases h : k = 7
  · subst h
    omega
  · omega

theorem zero121 : Tryz.zeroCells121 = (List.replicate 65 (Value.int .u8 0)).toArray := by kernel_rfl
theorem len121 : Tryz.prog.arrayLen 121 = 65 := by kernel_rfl
theorem elem121 : Tryz.prog.elem 121 = 5 := by kernel_rfl
theorem und121 : Tryz.prog.underlying 121 = some (.array 65 5) := by kernel_rfl
theorem size5 (W : World) : (sizeOf 5).run Tryz.prog W = .ok 1 W := by kernel_rfl

theorem slice65 (B k : Nat) (hk : k ≤ 7) (W : World) :
    (Instr.sliceAt 121 (.pointer (some ⟨B, 0, none⟩)) (some (.int .i64 (((65 - k : Nat) : Int) - 1))) none none).run Tryz.prog W = .ok (.slice (some ⟨B, 65 - k - 1, none⟩) (k + 1) (k + 1)) W := by
  have h := run_sliceAt_array_l (P := Tryz.prog) W 121 ⟨B, 0, none⟩ (by rw [len121, elem121]; exact und121) .i64 (((65 - k : Nat) : Int) - 1) (by omega) (by rw [len121]; omega)
  rw [h, elem121, size5]
  have e : (((65 - k : Nat) : Int) - 1).toNat = 65 - k - 1 := by omega
  simp only [Result.andThen, slicedAt, len121, e]
  rw [if_neg (by omega)]
  simp [Addr.add]
  omega

theorem back65 {W : World} {B : Nat} {ds : List UInt8} (h : Row65 W B ds) (c : Nat) :
    (convert 22 9 (.slice (some ⟨B, 65 - ds.length, none⟩) ds.length c)).run Tryz.prog W = .ok (.string ⟨ds.toArray⟩) W := by
  refine run_convert_bytes_back (P := Tryz.prog) W 22 9 5 ⟨B, 65 - ds.length, none⟩ c ds Tryz.underlying22 Tryz.underlying5 Tryz.underlying9 (fun j hj => ?_)
  have e : (⟨B, 65 - ds.length, none⟩ : Addr).add j = ⟨B, 65 - ds.length + j, none⟩ := by unfold Addr.add; split <;> simp_all
  rw [e]
  exact h.last j hj

set_option maxRecDepth 100000 in
set_option maxHeartbeats 1000000 in
theorem format16 (n : Nat) (w : World) (hn : n < 4294967296) (hT : w.cell? ⟨6, 15, none⟩ = some (.int .u8 4)) :
    Calls Tryz.prog 71 #[.slice none 0 0, .int .u64 n, .int .i64 16, .bool false, .bool false] w fun e w' =>
      ∃ k, k ≤ 7 ∧ n / 16 ^ k < 16 ∧ e = .returned (.tuple #[.slice none 0 0, .string ⟨(low n (k + 1)).toArray⟩]) ∧ Below w.heap.size w w' := by
  have HT := Lib.hid hT
  clear hT
  go_enter Tryz.func71, Tryz.ntmps71
  go_wp2_with (first | (go_at_call 89; refine (pow2_16 _).mono ?_; rintro e w' ⟨rfl, rfl⟩))
  refine (tz_16 _ (by rw [World.cell?_alloc_lt _ _ _ (World.block_lt_of_cell? w _ HT.out)]; exact HT.out)).mono ?_
  rintro e w' ⟨rfl, rfl⟩
  go_wp2_with fail
  go_loopw [1, 13] (fun u i wr => ∃ k : Nat, k ≤ 7 ∧ u = .int .u64 ((n / 16 ^ k : Nat) : Int) ∧ i = .int .i64 ((65 - k : Nat) : Int) ∧ Row65 wr w.heap.size (low n k) ∧ Below w.heap.size w wr) (fun u _ _ => (intOf u).toNat)
  case atStart =>
    refine ⟨0, by omega, by simp, by simp, ⟨fun j hj => ?_, fun j hj => alloc_frozen w _ _ j, fun j hj => ?_⟩, (Below.refl _ _).alloc (Nat.le_refl _) _⟩
    · rw [alloc_cell, zero121]
      exact ⟨0, by rw [List.getElem?_toArray, List.getElem?_replicate, if_pos hj]⟩
    · simp [low] at hj
  case round =>
    obtain ⟨k, hk, rfl, rfl, hrow, hbel⟩ := hrel
    have hlt : n / 16 ^ k < 4294967296 := Nat.lt_of_le_of_lt (Nat.div_le_self _ _) hn
    have hlen := low_length n k
    obtain ⟨v0, hc⟩ := hrow.any (65 - k - 1) (by omega)
    have hf := hrow.free (65 - k - 1) (by omega)
    have HROW := Lib.hid hrow
    have HBEL := Lib.hid hbel
    clear hrow hbel
    have h15 := and15 (n / 16 ^ k) hlt
    have HL := Lib.hid hlen
    clear hlen
    generalize hu : n / 16 ^ k = u at *
    have HU := Lib.hid hu
    clear hu
    by_cases hge : 16 ≤ u
    · have hhex := fun h => hex_at (u % 16) h (Nat.mod_lt _ (by decide))
      go_wp2_with fail
      have hrow2 := row_store HROW.out (by rw [HL.out]; omega) (hexd (u % 16))
      rw [HL.out] at hrow2
      refine ⟨⟨k + 1, pow16_bound hn hk HU.out hge, ?_, ?_, ?_, ?_⟩, ?_⟩
      · rw [Nat.pow_succ, ← Nat.div_div_eq_div_mul, HU.out]; simp
      · congr 1; omega
      · show Row65 _ _ (hexd (n / 16 ^ k % 16) :: low n k)
        rw [HU.out]; exact hrow2
      · exact HBEL.out.setCell (Nat.le_refl _) _
      · simp [intOf]; omega
    · have hhex := fun h => hex_at u h (by omega)
      have hrow2 := row_store HROW.out (by rw [HL.out]; omega) (hexd u)
      rw [HL.out] at hrow2
      have hback := back65 hrow2 (k + 1)
      rw [List.length_cons, HL.out, show 65 - (k + 1) = 65 - k - 1 by omega] at hback
      have hsl := slice65 w.heap.size k hk
      have hstr : RowKit.Hid ((hexd u :: low n k) = low n (k + 1)) := by
        show (hexd u :: low n k) = (hexd (n / 16 ^ k % 16) :: low n k)
        rw [HU.out, Nat.mod_eq_of_lt (by omega)]
      clear hrow2
      generalize (hexd u :: low n k) = str at hback hstr
      go_wp2_with fail
      go_ret2
      refine ⟨k, hk, by rw [HU.out]; omega, ?_, HBEL.out.setCell (Nat.le_refl _) _⟩
      rw [← hstr.out]
      rfl
end Go.Proofs.YtpmecojegehikaaGreatDoor
