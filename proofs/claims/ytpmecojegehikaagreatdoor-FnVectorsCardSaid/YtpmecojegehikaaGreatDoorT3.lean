/- The walk of the text of a number: eight hexadecimal digits. -/
import Derived.Test.YtpmecojegehikaaGreatDoorT2
import Derived.Test.YtpmecojegehikaaGreatDoorShelf
namespace Go.Proofs.YtpmecojegehikaaGreatDoor
open Go.RowKit

def FmtPost (n : Nat) (w : World) (e : Ending) (w' : World) : Prop :=
  ∃ k, k ≤ 7 ∧ n / 16 ^ k < 16 ∧ e = .returned (.string ⟨(low n (k + 1)).toArray⟩) ∧ Below w.heap.size w w'

set_option maxRecDepth 100000 in
set_option maxHeartbeats 1000000 in
theorem iformat_any (n : Nat) (w : World) (hn : n < 4294967296) (hT : w.cell? ⟨6, 15, none⟩ = some (.int .u8 4)) :
    Calls Tryz.prog 57 #[.int .i64 n, .int .i64 16] w (FmtPost n w) := by
  have HT := Lib.hid hT
  clear hT
  have h0 : decide ((n : Int) < 0) = false := by simp
  go_enter Tryz.func57, Tryz.ntmps57
  go_wp2_with fail
  refine (format16 n _ hn HT.out).mono ?_
  rintro e w' ⟨k, hk, hk2, rfl, hb⟩
  have HB := Lib.hid hb
  clear hb
  generalize hs : (⟨(low n (k + 1)).toArray⟩ : ByteArray) = str
  have HS := Lib.hid hs
  clear hs
  go_wp2_with fail
  go_ret
  exact ⟨k, hk, hk2, by rw [HS.out]; rfl, HB.out⟩

set_option maxHeartbeats 1000000 in
theorem sformat_any (n : Nat) (w : World) (hn : n < 4294967296) (hT : w.cell? ⟨6, 15, none⟩ = some (.int .u8 4)) :
    Calls Tryz.prog 49 #[.int .i64 n, .int .i64 16] w (FmtPost n w) := by
  have HT := Lib.hid hT
  clear hT
  go_enter Tryz.func49, Tryz.ntmps49
  go_wp2_with fail
  refine (iformat_any n _ hn HT.out).mono ?_
  rintro e w' ⟨k, hk, hk2, rfl, hb⟩
  have HB := Lib.hid hb
  clear hb
  generalize hs : (⟨(low n (k + 1)).toArray⟩ : ByteArray) = str
  have HS := Lib.hid hs
  clear hs
  go_wp2_with fail
  go_ret
  exact ⟨k, hk, hk2, by rw [HS.out]; rfl, HB.out⟩

theorem repeat_zero (d : Nat) : Lib.repeatL [48] d = List.replicate d (48 : UInt8) := by
  induction d with
  | zero => rfl
  | succ d ih => rw [List.replicate_succ]; show [48] ++ Lib.repeatL [48] d = _; rw [ih]; rfl

theorem low_pad (n : Nat) : ∀ (d k : Nat), n / 16 ^ k < 16 → List.replicate d (48 : UInt8) ++ low n (k + 1) = low n (k + 1 + d)
  | 0, k, _ => rfl
  | d + 1, k, h => by
    have h2 : n / 16 ^ (k + 1 + d) = 0 := by
      have h3 : 16 ^ (k + 1) ≤ 16 ^ (k + 1 + d) := Nat.pow_le_pow_right (by decide) (by omega)
      refine Nat.div_eq_of_lt (Nat.lt_of_lt_of_le ?_ h3)
      rw [Nat.pow_succ]
      have := Nat.lt_mul_of_div_lt h (Nat.pow_pos (by decide))
      omega
    show _ = hexd (n / 16 ^ (k + 1 + d) % 16) :: low n (k + 1 + d)
    rw [h2, List.replicate_succ, List.cons_append, low_pad n d k h]
    rfl

def TextPost (x : Nat) (w : World) (e : Ending) (w' : World) : Prop :=
  e = .returned (.string ⟨(low (bits32 x) 8).toArray⟩) ∧ Below w.heap.size w w'

theorem bits32_lt {x : Nat} (hx : x < 4294967296) : bits32 x < 4294967296 := by unfold bits32; split <;> omega

set_option maxHeartbeats 1000000 in
theorem digits_any (x : Nat) (w : World) (hx : x < 4294967296) (hT : w.cell? ⟨6, 15, none⟩ = some (.int .u8 4)) :
    Calls Tryz.prog 38 #[.float .f32 x] w (TextPost x w) := by
  have HT := Lib.hid hT
  clear hT
  go_enter Tryz.func38, Tryz.ntmps38
  go_wp2_with fail
  refine (bits_any x _ hx).mono ?_
  rintro e w' ⟨rfl, rfl⟩
  go_wp2_with fail
  refine (sformat_any (bits32 x) _ (bits32_lt hx) HT.out).mono ?_
  rintro e w1 ⟨k, hk, hk2, rfl, hb⟩
  have HB := Lib.hid hb
  clear hb
  have hsz : (⟨(low (bits32 x) (k + 1)).toArray⟩ : ByteArray).size = k + 1 := by simp [ByteArray.size, low_length]
  have hdat : RowKit.Hid ((⟨(low (bits32 x) (k + 1)).toArray⟩ : ByteArray).data.toList = low (bits32 x) (k + 1)) := rfl
  generalize (⟨(low (bits32 x) (k + 1)).toArray⟩ : ByteArray) = str at hsz hdat
  have HZ := Lib.hid hsz
  have hsz2 : (str.size : Int) = (k : Int) + 1 := by omega
  clear hsz
  go_wp2_with fail
  rw [show (8 - ((k : Int) + 1)) = ((7 - k : Nat) : Int) by omega]
  refine (Tryz.strings_Repeat ⟨#[48]⟩ (7 - k) _ (by omega) (by show 1 * (7 - k) ≤ _; omega)).mono ?_
  rintro e w2 ⟨rfl, hb2⟩
  have HB2 := Lib.hid hb2
  clear hb2
  have hrep : RowKit.Hid ((Lib.repeatL (⟨#[48]⟩ : ByteArray).data.toList (7 - k)) = List.replicate (7 - k) 48) := repeat_zero (7 - k)
  generalize (Lib.repeatL (⟨#[48]⟩ : ByteArray).data.toList (7 - k)) = rep at hrep
  have hle : rep.length ≤ 7 := by rw [hrep.out, List.length_replicate]; omega
  have hle2 : str.size ≤ 8 := by rw [HZ.out]; omega
  clear hsz2
  go_wp2_with fail
  go_ret
  have HB3 : Below w.heap.size w w2 := HB.out.trans (HB2.out.mono HB.out.size)
  refine ⟨?_, HB3⟩
  have hpad := low_pad (bits32 x) (7 - k) k hk2
  rw [show k + 1 + (7 - k) = 8 by omega, ← hrep.out, ← hdat.out] at hpad
  show Ending.returned (Value.string ({ data := rep.toArray } ++ str)) = _
  congr 2
  rw [← hpad]
  apply ByteArray.ext
  simp
end Go.Proofs.YtpmecojegehikaaGreatDoor
