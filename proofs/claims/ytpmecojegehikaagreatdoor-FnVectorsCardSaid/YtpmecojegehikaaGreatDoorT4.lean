/- The walk of the text of numbers. -/
import Derived.Test.YtpmecojegehikaaGreatDoorT3
import Derived.Deep.AppendLies
namespace Go.Proofs.YtpmecojegehikaaGreatDoor
open Go.RowKit

theorem Tz.info9 : (Tryz.prog.info? 9).map (fun i => (i.zero, i.size, i.bytes)) = some (some (.string ByteArray.empty), 1, 16) := by kernel_rfl

/-- the eight digits of a number, as a text -/
def dig (x : Nat) : ByteArray := ⟨(low (bits32 x) 8).toArray⟩

theorem owns_below {w w' : World} {base : Nat} {e : TypeId} {size : Nat} {v : Value} {n : Nat} {xs : List Value} (h : w.ownsRow base e size v n xs) (hb : Below w.heap.size w w') : w'.ownsRow base e size v n xs := by
  obtain ⟨h1, h2⟩ := h
  refine ⟨h1, ?_⟩
  rcases h2 with h2 | ⟨g, cap, cur, hv, hg, hh, r⟩
  · exact Or.inl h2
  · have hlt : g < w.heap.size := (Array.getElem?_eq_some_iff.1 hh).1
    exact Or.inr ⟨g, cap, cur, hv, hg, by rw [hb.block g hlt]; exact hh, r⟩

theorem owns_empty (w : World) (e : TypeId) : (w.alloc (.cells #[] e)).ownsRow w.heap.size e 1 (.slice (some ⟨w.heap.size, 0, none⟩) 0 0) 0 [] := by
  refine ⟨rfl, Or.inr ⟨w.heap.size, 0, #[], rfl, Nat.le_refl _, ?_, Nat.le_refl _, Nat.zero_le _, rfl, rfl⟩⟩
  rw [show (w.alloc (.cells #[] e)).heap = w.heap.push (.cells #[] e) from rfl, Array.getElem?_push_size]

theorem add_zero (a : Addr) : a.add 0 = a := by simp [Addr.add]

/-- the texts of the first k numbers -/
def digs (xs : List Nat) (k : Nat) : List Value := (xs.take k).map fun x => Value.string (dig x)

theorem digs_succ (xs : List Nat) (k : Nat) (h : k < xs.length) : digs xs (k + 1) = digs xs k ++ [Value.string (dig xs[k])] := by
  unfold digs
  rw [List.take_succ_eq_append_getElem h, List.map_append]; rfl

/-- the text of the numbers -/
def numsText (xs : List Nat) : ByteArray := ⟨(Lib.join (xs.map fun x => (dig x).data.toList) [44]).toArray⟩

set_option maxHeartbeats 1000000 in
theorem joined_any (g c : Nat) (xs : List ByteArray) (w : World) (hx : ∀ (j : Nat) (x : ByteArray), xs[j]? = some x → w.cell? ⟨g, 0 + j, none⟩ = some (.string x))
    (hg : g < w.heap.size) (hl0 : 0 < xs.length) (hl : xs.length ≤ 256) (hc : xs.length ≤ c) (hsum : (Lib.join (xs.map fun x => x.data.toList) [44]).length ≤ 140737488355328) :
    Calls Tryz.prog 39 #[.slice (some ⟨g, 0, none⟩) xs.length c] w fun e w' => e = .returned (.string ⟨(Lib.join (xs.map fun x => x.data.toList) [44]).toArray⟩) ∧ Below w.heap.size w w' := by
  have HX := Lib.hid hx
  have HSUM := Lib.hid hsum
  clear hx hsum
  have h0 : ((xs.length : Int) == 0) = false := by simp; intro h; subst h; simp at hl0
  go_enter Tryz.func39, Tryz.ntmps39
  go_wp2_with fail
  refine (Tryz.strings_Join g 0 c xs ⟨#[44]⟩ _ HX.out hg (by omega) hc HSUM.out).mono ?_
  rintro e w1 ⟨rfl, hb⟩
  have HB := Lib.hid hb
  clear hb HSUM
  generalize hs : (Lib.join (xs.map fun x => x.data.toList) (⟨#[44]⟩ : ByteArray).data.toList) = str
  have HSTR := Lib.hid hs
  clear hs
  go_wp2_with fail
  go_ret
  refine ⟨?_, HB.out⟩
  have e : Lib.join (xs.map fun x => x.data.toList) [44] = str := HSTR.out
  rw [e]; rfl

set_option maxRecDepth 100000 in
set_option maxHeartbeats 1000000 in
theorem numtext_any (xs : List Nat) (b off c : Nat) (w : World) (hx : ∀ j (h : j < xs.length), w.cell? ⟨b, off + j, none⟩ = some (.float .f32 xs[j])) (hb : b < w.heap.size)
    (hlt : ∀ x ∈ xs, x < 4294967296) (hl : xs.length ≤ 256) (hl0 : 0 < xs.length) (hT : w.cell? ⟨6, 15, none⟩ = some (.int .u8 4))
    (hsum : (Lib.join ((xs.map dig).map fun x => x.data.toList) [44]).length ≤ 140737488355328) :
    Calls Tryz.prog 27 #[.slice (some ⟨b, off, none⟩) xs.length c] w fun e w' => e = .returned (.tuple #[.string (numsText xs), .bool true]) ∧ Below w.heap.size w w' := by
  have HT := Lib.hid hT
  have HX := Lib.hid hx
  have HLT := Lib.hid hlt
  have HSUM := Lib.hid hsum
  have h6 := Lib.hid (World.block_lt_of_cell? w _ hT)
  clear hT hx hlt hsum
  obtain ⟨i0, hi, hz0, hz1, hz2⟩ := info_parts Tz.info9
  have hd9 : decide (256 < (xs.length : Int)) = false := by simp; omega
  go_enter Tryz.func27, Tryz.ntmps27
  go_wp2_with fail
  go_loopw [4, 13] (fun v i wr => ∃ k : Nat, k ≤ xs.length ∧ i = .int .i64 k ∧ wr.ownsRow w.heap.size 9 1 v k (digs xs k) ∧ Below w.heap.size w wr) (fun _ i _ => xs.length - (intOf i).toNat)
  case atStart => exact ⟨0, Nat.zero_le _, rfl, owns_empty w 9, (Below.refl _ _).alloc (Nat.le_refl _) _⟩
  case round =>
    rename_i v i wr
    obtain ⟨k, hk, rfl, hown, hbel⟩ := hrel
    have HOWN := Lib.hid hown
    have HBEL := Lib.hid hbel
    clear hown hbel
    by_cases hlt : k < xs.length
    · have hcell : wr.cell? ⟨b, off + k, none⟩ = some (.float .f32 xs[k]) := by rw [HBEL.out.cell (by exact hb)]; exact HX.out k hlt
      have hxk := HLT.out xs[k] (List.getElem_mem _)
      have hdig := Lib.hid (digs_succ xs k hlt)
      generalize xs[k] = x at hcell hxk hdig
      go_wp2_with fail
      refine (digits_any x _ hxk (by rw [HBEL.out.cell (by exact h6.out)]; exact HT.out)).mono ?_
      rintro e w1 ⟨rfl, hb1⟩
      have HBEL1 := Lib.hid (HBEL.out.trans (hb1.mono HBEL.out.size))
      have HOWN1 := Lib.hid (owns_below HOWN.out hb1)
      clear hb1
      have hd : RowKit.Hid ((⟨(low (bits32 x) 8).toArray⟩ : ByteArray) = dig x) := rfl
      generalize (⟨(low (bits32 x) 8).toArray⟩ : ByteArray) = d at hd
      go_wp2_with (at_builtin; refine wpList_append_own _ rfl _ _ 61 rfl w.heap.size 9 i0 (.string ByteArray.empty) 1 16 Tryz.underlying61 hi hz0 hz1 hz2 rfl (by decide) _ _ _ rfl (HOWN1.out.alloc _) ⟨w1.heap.size, 0, none⟩ 1 1 [.string d] rfl rfl ?c1 ?c2 ?c3 ?c4 ?c5 ?_)
      case c1 =>
        intro j u hj
        match j, hj with
        | 0, hj => simp at hj; subst hj; rw [add_zero]; exact alloc_cell w1 _ _ 0
      case c2 => intro u hu; simp at hu; subst hu; rfl
      case c3 => unfold maxLen; omega
      case c4 => omega
      case c5 => have := HBEL1.out.size; simp; omega
      · intro v' w2 hown2 hgrow _
        have HB2 := Lib.hid ((HBEL1.out.alloc HBEL1.out.size (.cells #[.string d] 9)).grown hgrow (by have := HBEL1.out.size; simp; omega) (fun q hq => (HOWN1.out.lt q hq).1))
        have HOWN2 := Lib.hid hown2
        clear hown2 hgrow
        go_wp2_with fail
        go_roundw
        case rel =>
          refine ⟨k + 1, by omega, by go_num, ?_, HB2.out⟩
          have := HOWN2.out
          rw [hd.out, ← hdig.out] at this
          exact this
        case measure => simp [intOf]; omega
    · have hke : k = xs.length := by omega
      subst hke
      obtain ⟨g, cap, hv, hg1, hg2⟩ := HOWN.out.form hl0
      have hown2 := HOWN.out
      rw [hv] at hown2
      have hcap : xs.length ≤ cap := by
        rcases hown2.2 with ⟨h, _⟩ | ⟨g', cap', cur, h, _, _, h3, _⟩
        · cases h
        · cases h; exact h3
      have HCELL : RowKit.Hid (∀ (j : Nat) (x : ByteArray), (xs.map dig)[j]? = some x → wr.cell? ⟨g, 0 + j, none⟩ = some (.string x)) := by
        intro j x hj
        have hjl : j < xs.length := by
          have := (List.getElem?_eq_some_iff.1 hj).1
          simpa using this
        rw [Nat.zero_add, hown2.cellAt j (by omega)]
        unfold digs
        rw [List.take_length]
        rw [List.getElem?_map] at hj ⊢
        cases hq : xs[j]? with
        | none => rw [hq] at hj; cases hj
        | some q => rw [hq] at hj; cases hj; rfl
      clear hown2
      rw [hv]
      clear hv HOWN
      have hlm : (xs.map dig).length = xs.length := List.length_map _
      go_wp2_with fail
      have hj := joined_any g cap (xs.map dig) wr HCELL.out hg2 (by omega) (by omega) (by omega) HSUM.out
      rw [hlm] at hj
      refine hj.mono ?_
      rintro e w1 ⟨rfl, hb1⟩
      have HB1 := Lib.hid (HBEL.out.trans (hb1.mono HBEL.out.size))
      clear hb1 hlm
      generalize hs : (⟨(Lib.join ((xs.map dig).map fun x => x.data.toList) [44]).toArray⟩ : ByteArray) = str
      have HSTR := Lib.hid hs
      clear hs
      go_wp2_with fail
      go_ret2
      refine ⟨?_, HB1.out⟩
      have e : numsText xs = str := by rw [← HSTR.out]; unfold numsText; rw [List.map_map]; rfl
      rw [e]; rfl
end Go.Proofs.YtpmecojegehikaaGreatDoor
