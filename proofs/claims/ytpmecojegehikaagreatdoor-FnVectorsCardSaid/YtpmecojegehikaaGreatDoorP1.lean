/- The walk of the reading of eight hexadecimal digits. -/
import Derived.Test.YtpmecojegehikaaGreatDoorT5
namespace Go.Proofs.YtpmecojegehikaaGreatDoor
open Go.RowKit

theorem low_get (n : Nat) : ∀ (m k : Nat) (h : k < (low n m).length), (low n m)[k] = hexd (n / 16 ^ (m - 1 - k) % 16)
  | 0, k, h => by simp [low] at h
  | m + 1, 0, _ => by simp [low]
  | m + 1, k + 1, h => by
    have h2 : k < (low n m).length := by simpa [low] using h
    have := low_get n m k h2
    rw [show (low n (m + 1))[k + 1] = (low n m)[k] from rfl, this]
    congr 3
    congr 1
    omega

theorem row_cell (w : World) (s : ByteArray) (cap : Nat) (m : Nat × Nat) (j : Nat) (h : j < s.data.toList.length) :
    (w.drew.alloc (.cells (bytesRow s cap) 5 m)).cell? ⟨w.heap.size, j, none⟩ = some (.int .u8 ((s.data.toList[j]).toNat : Int)) := by
  unfold World.cell?
  rw [show (w.drew.alloc (.cells (bytesRow s cap) 5 m)).heap = w.heap.push (.cells (bytesRow s cap) 5 m) from rfl, Array.getElem?_push_size]
  simp only [Option.isSome_none, Bool.false_eq_true, if_false]
  unfold bytesRow
  have h2 : j < s.data.size := by simpa using h
  rw [Array.getElem?_append_left (by simpa using h2), Array.getElem?_map, Array.getElem?_eq_getElem h2]
  simp

set_option maxHeartbeats 1000000 in
theorem lower_any (d : Nat) (h1 : 10 ≤ d) (h2 : d < 16) (w : World) :
    Calls Tryz.prog 80 #[.int .u8 (87 + (d : Int))] w fun e w' => e = .returned (.int .u8 (87 + (d : Int))) ∧ w = w' := by
  have hc : d = 10 ∨ d = 11 ∨ d = 12 ∨ d = 13 ∨ d = 14 ∨ d = 15 := by omega
  clear h1 h2
  rcases hc with rfl | rfl | rfl | rfl | rfl | rfl
  all_goals
    go_enter Tryz.func80, Tryz.ntmps80
    go_wp2
    go_ret
    exact ⟨rfl, rfl⟩

theorem hexd_low (d : Nat) (h : d < 10) : ((hexd d).toNat : Int) = 48 + (d : Int) := by
  unfold hexd
  rw [if_pos h, UInt8.toNat_ofNat']; omega
theorem hexd_high (d : Nat) (h : 10 ≤ d) (h2 : d < 16) : ((hexd d).toNat : Int) = 87 + (d : Int) := by
  unfold hexd
  rw [if_neg (by omega), UInt8.toNat_ofNat']; omega

set_option maxRecDepth 100000 in
set_option maxHeartbeats 1000000 in
theorem iparse_any (s : ByteArray) (n : Nat) (w : World) (hn : n < 4294967296) (hs : s.data.toList = low n 8) :
    Calls Tryz.prog 65 #[.string s, .int .i64 16, .int .i64 32] w fun e w' => e = .returned (.tuple #[.int .u64 n, .nilIface]) ∧ Below w.heap.size w w' := by
  have HS := Lib.hid hs
  have hsz : s.size = 8 := by
    have := congrArg List.length hs
    rw [low_length] at this
    exact this
  have hne : s.toList.isEmpty = false := by
    rw [ByteArray.toList_eq]
    cases h : s.data.toList with
    | nil => rw [h] at hs; cases hs
    | cons a l => rfl
  clear hs
  have hcv := run_bytes_of_string (P := Tryz.prog) w 9 22 5 s Tryz.underlying9 Tryz.underlying22 Tryz.underlying5
  generalize hcap : grownCap w s.size 0 5 = cap at hcv
  have hcell := row_cell w s cap ((bytesRow s cap).size, (bytesRow s cap).size + 1)
  have hbel := Lib.hid ((Below.refl w.heap.size w).drew.alloc (Nat.le_refl _) (.cells (bytesRow s cap) 5 ((bytesRow s cap).size, (bytesRow s cap).size + 1)))
  generalize (w.drew.alloc (.cells (bytesRow s cap) 5 ((bytesRow s cap).size, (bytesRow s cap).size + 1))) = w1 at hcv hcell hbel
  have HCELL := Lib.hid hcell
  clear hcell hcap
  rw [hsz] at hcv
  go_enter Tryz.func65, Tryz.ntmps65
  go_wp2_with fail
  have hC : (4294967296 : Int) ≤ 1152921504606846976 := by decide
  generalize (1152921504606846976 : Int) = C at hC ⊢
  go_loop [12, 13, 101] (fun u v i => ∃ k : Nat, k ≤ 8 ∧ u = .bool false ∧ v = .int .u64 ((n / 16 ^ (8 - k) : Nat) : Int) ∧ i = .int .i64 k) (fun _ _ i => 8 - (intOf i).toNat)
  case atStart =>
    refine ⟨0, by omega, rfl, ?_, rfl⟩
    rw [show n / 16 ^ (8 - 0) = 0 from Nat.div_eq_of_lt (by omega)]; rfl
  case round =>
    obtain ⟨k, hk, rfl, rfl, rfl⟩ := hrel
    by_cases hlt : k < 8
    · have hl8 : k < (low n 8).length := by rw [low_length]; exact hlt
      have hcell : w1.cell? ⟨w.heap.size, k, none⟩ = some (.int .u8 ((hexd (n / 16 ^ (7 - k) % 16)).toNat : Int)) := by
        have h1 := HCELL.out k (by rw [HS.out]; exact hl8)
        rw [h1]
        congr 2
        have h2 := low_get n 8 k hl8
        have h3 : s.data.toList[k]'(by rw [HS.out]; exact hl8) = (low n 8)[k] := by simp only [HS.out]
        rw [h3, h2]
      have hv : n / 16 ^ (8 - k) = n / 16 ^ (7 - k) / 16 := by
        rw [show 8 - k = (7 - k) + 1 by omega, Nat.pow_succ, Nat.div_div_eq_div_mul]
      have hvn : n / 16 ^ (7 - k) ≤ n := Nat.div_le_self _ _
      have hnext : 8 - (k + 1) = 7 - k := by omega
      rw [hv]
      have HN := Lib.hid hnext
      clear hv hnext
      generalize hv' : n / 16 ^ (7 - k) = v at *
      have HV := Lib.hid hv'
      clear hv'
      obtain ⟨q, d, hqd, hd16⟩ : ∃ q d, v = 16 * q + d ∧ d < 16 := ⟨v / 16, v % 16, by omega, by omega⟩
      have e1 : v / 16 = q := by omega
      have e2 : v % 16 = d := by omega
      have hb : 16 * q + d ≤ 4294967295 := by omega
      rw [e1]
      rw [e2] at hcell
      clear e1 e2 hvn
      have HQD := Lib.hid hqd
      clear hqd
      by_cases hd : d < 10
      · rw [hexd_low _ hd] at hcell
        go_wp2_with fail
        refine ⟨⟨k + 1, by omega, rfl, ?_, by go_num⟩, by simp [intOf]; omega⟩
        rw [HN.out, HV.out, HQD.out]
        congr 1
        push_cast
        omega
      · rw [hexd_high _ (by omega) hd16] at hcell
        go_wp2_with (first | (go_at_call 80; refine (lower_any _ (by omega) hd16 _).mono ?_; rintro e w' ⟨rfl, rfl⟩))
        refine ⟨⟨k + 1, by omega, rfl, ?_, by go_num⟩, by simp [intOf]; omega⟩
        rw [HN.out, HV.out, HQD.out]
        congr 1
        push_cast
        omega
    · have hk8 : k = 8 := by omega
      subst hk8
      rw [show n / 16 ^ (8 - 8) = n by simp]
      go_wp2_with fail
      go_ret2
      exact ⟨rfl, hbel.out⟩
end Go.Proofs.YtpmecojegehikaaGreatDoor
