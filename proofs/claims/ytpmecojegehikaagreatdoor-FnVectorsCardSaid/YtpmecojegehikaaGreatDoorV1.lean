/- The walk of the law of the vectors. -/
import Derived.Test.YtpmecojegehikaaGreatDoorF1
namespace Go.Proofs.YtpmecojegehikaaGreatDoor
open Go.RowKit

theorem long_no (a b : Option Addr) (n c m d : Nat) (w : World) (hn : (n : Int) ≤ 1048576) (hm : (m : Int) ≤ 1048576) :
    Calls Tryz.prog 4 #[.slice a n c, .slice b m d] w fun e w' => e = .returned (.bool false) ∧ w = w' :=
  (long_any a b n c m d w).mono fun _ _ ⟨h, k⟩ => ⟨by rw [h, decide_eq_false (by omega), decide_eq_false (by omega)]; rfl, k⟩
theorem long_yes (a b : Option Addr) (n c m d : Nat) (w : World) (h : ¬ ((n : Int) ≤ 1048576 ∧ (m : Int) ≤ 1048576)) :
    Calls Tryz.prog 4 #[.slice a n c, .slice b m d] w fun e w' => e = .returned (.bool true) ∧ w = w' :=
  (long_any a b n c m d w).mono fun _ _ ⟨h', k⟩ => ⟨by
    rw [h']
    by_cases q : (n : Int) > 1048576
    · rw [decide_eq_true q]; rfl
    · rw [decide_eq_true (p := (m : Int) > 1048576) (by omega), Bool.or_true], k⟩

set_option maxRecDepth 100000 in
set_option maxHeartbeats 4000000 in
theorem vectors_long (pa pb : Option Addr) (n c m d : Nat) (w : World) (h : ¬ ((n : Int) ≤ 1048576 ∧ (m : Int) ≤ 1048576)) :
    Calls Tryz.prog 3 #[.slice pa n c, .slice pb m d] w fun e w' => e = .returned (.bool true) ∧ Below w.heap.size w w' := by
  have H := Lib.hid h
  clear h
  go_enter Tryz.func3, Tryz.ntmps3
  go_wp2_with (first | (go_at_call 4; refine (long_yes pa pb n c m d _ H.out).mono ?_; rintro e w' ⟨rfl, rfl⟩))
  go_ret
  exact ⟨rfl, Below.refl _ _⟩

/-- What the walk holds of its world: the two vectors' variables, the tables, the bytes of the first argument. -/
structure All (w : World) (W : World) (A B : Nat) (x y z x' y' z' : Nat) (pa : Option Addr) (n : Nat) (k : Int) : Prop where
  a : Three W A (.float .f32 x) (.float .f32 y) (.float .f32 z)
  b : Three W B (.float .f32 x') (.float .f32 y') (.float .f32 z')
  t : W.cell? ⟨6, 15, none⟩ = some (.int .u8 4)
  m : W.cell? ⟨4, 0, none⟩ = some (.int .i64 k)
  s : Bytes W pa n W.heap.size
  k : Below w.heap.size w W

theorem Bytes.step {w w' : World} {a : Option Addr} {n : Nat} (h : Bytes w a n w.heap.size) (hb : Below w.heap.size w w') : Bytes w' a n w'.heap.size := by
  rcases h.below hb with h | ⟨b, off, ha, hl, hv⟩
  · exact Or.inl h
  · exact Or.inr ⟨b, off, ha, Nat.lt_of_lt_of_le hl hb.size, hv⟩
theorem All.below {w W W' : World} {A B : Nat} {x y z x' y' z' : Nat} {pa : Option Addr} {n : Nat} {k : Int} (h : All w W A B x y z x' y' z' pa n k) (hb : Below W.heap.size W W') : All w W' A B x y z x' y' z' pa n k :=
  ⟨h.a.below hb, h.b.below hb, keep1 hb h.t, keep1 hb h.m, h.s.step hb, h.k.trans (hb.mono h.k.size)⟩
theorem below_alloc (w : World) (o : Obj) : Below w.heap.size w (w.alloc o) := (Below.refl _ _).alloc (Nat.le_refl _) _

theorem mkS {W w' : World} {A B : Nat} {x y z x' y' z' : Value} (a0 : W.cell? ⟨A, 0, none⟩ = some x) (a1 : W.cell? ⟨A, 1, none⟩ = some y) (a2 : W.cell? ⟨A, 2, none⟩ = some z)
    (b0 : W.cell? ⟨B, 0, none⟩ = some x') (b1 : W.cell? ⟨B, 1, none⟩ = some y') (b2 : W.cell? ⟨B, 2, none⟩ = some z') (h : Below W.heap.size W w') :
    Below W.heap.size W w' ∧ w'.cell? ⟨A, 0, none⟩ = some x ∧ w'.cell? ⟨A, 1, none⟩ = some y ∧ w'.cell? ⟨A, 2, none⟩ = some z ∧
      w'.cell? ⟨B, 0, none⟩ = some x' ∧ w'.cell? ⟨B, 1, none⟩ = some y' ∧ w'.cell? ⟨B, 2, none⟩ = some z' :=
  ⟨h, keep1 h a0, keep1 h a1, keep1 h a2, keep1 h b0, keep1 h b1, keep1 h b2⟩

theorem mkS9 {W w' : World} {t A c B d u : Nat} {vt0 vt1 vt2 va0 va1 va2 vc0 vc1 vc2 vb0 vb1 vb2 vd0 vd1 vd2 vu0 vu1 vu2 : Value}
    (t0 : W.cell? ⟨t, 0, none⟩ = some vt0) (t1 : W.cell? ⟨t, 1, none⟩ = some vt1) (t2 : W.cell? ⟨t, 2, none⟩ = some vt2) (a0 : W.cell? ⟨A, 0, none⟩ = some va0) (a1 : W.cell? ⟨A, 1, none⟩ = some va1) (a2 : W.cell? ⟨A, 2, none⟩ = some va2) (c0 : W.cell? ⟨c, 0, none⟩ = some vc0) (c1 : W.cell? ⟨c, 1, none⟩ = some vc1) (c2 : W.cell? ⟨c, 2, none⟩ = some vc2) (b0 : W.cell? ⟨B, 0, none⟩ = some vb0) (b1 : W.cell? ⟨B, 1, none⟩ = some vb1) (b2 : W.cell? ⟨B, 2, none⟩ = some vb2) (d0 : W.cell? ⟨d, 0, none⟩ = some vd0) (d1 : W.cell? ⟨d, 1, none⟩ = some vd1) (d2 : W.cell? ⟨d, 2, none⟩ = some vd2) (u0 : W.cell? ⟨u, 0, none⟩ = some vu0) (u1 : W.cell? ⟨u, 1, none⟩ = some vu1) (u2 : W.cell? ⟨u, 2, none⟩ = some vu2) (h : Below W.heap.size W w') :
    Below W.heap.size W w' ∧ w'.cell? ⟨t, 0, none⟩ = some vt0 ∧ w'.cell? ⟨t, 1, none⟩ = some vt1 ∧ w'.cell? ⟨t, 2, none⟩ = some vt2 ∧ w'.cell? ⟨A, 0, none⟩ = some va0 ∧ w'.cell? ⟨A, 1, none⟩ = some va1 ∧ w'.cell? ⟨A, 2, none⟩ = some va2 ∧ w'.cell? ⟨c, 0, none⟩ = some vc0 ∧ w'.cell? ⟨c, 1, none⟩ = some vc1 ∧ w'.cell? ⟨c, 2, none⟩ = some vc2 ∧ w'.cell? ⟨B, 0, none⟩ = some vb0 ∧ w'.cell? ⟨B, 1, none⟩ = some vb1 ∧ w'.cell? ⟨B, 2, none⟩ = some vb2 ∧ w'.cell? ⟨d, 0, none⟩ = some vd0 ∧ w'.cell? ⟨d, 1, none⟩ = some vd1 ∧ w'.cell? ⟨d, 2, none⟩ = some vd2 ∧ w'.cell? ⟨u, 0, none⟩ = some vu0 ∧ w'.cell? ⟨u, 1, none⟩ = some vu1 ∧ w'.cell? ⟨u, 2, none⟩ = some vu2 :=
  ⟨h, keep1 h t0, keep1 h t1, keep1 h t2, keep1 h a0, keep1 h a1, keep1 h a2, keep1 h c0, keep1 h c1, keep1 h c2, keep1 h b0, keep1 h b1, keep1 h b2, keep1 h d0, keep1 h d1, keep1 h d2, keep1 h u0, keep1 h u1, keep1 h u2⟩

set_option maxRecDepth 100000 in
set_option maxHeartbeats 8000000 in
theorem vectors_walk (pa pb : Option Addr) (n c m d : Nat) (w : World) (k : Int) (hn : (n : Int) ≤ 1048576) (hm : (m : Int) ≤ 1048576)
    (hba : Bytes w pa n w.heap.size) (hbb : Bytes w pb m w.heap.size) (hT : w.cell? ⟨6, 15, none⟩ = some (.int .u8 4)) (hM : w.cell? ⟨4, 0, none⟩ = some (.int .i64 k)) :
    Calls Tryz.prog 3 #[.slice pa n c, .slice pb m d] w fun e w' => e = .returned (.bool true) ∧ Below w.heap.size w w' := by
  have HBA := Lib.hid hba
  have HBB := Lib.hid hbb
  have HT := Lib.hid hT
  have HM := Lib.hid hM
  clear hba hbb hT hM
  go_enter Tryz.func3, Tryz.ntmps3
  go_upto_region 3 with (first | (go_at_call 4; refine (long_no pa pb n c m d _ hn hm).mono ?_; rintro e w' ⟨rfl, rfl⟩))
  go_upto_region 4 with (first | (go_at_call 5; refine (intvector_any pa n c _ HBA.out (by omega)).mono ?_; rintro e w1 ⟨x, y, z, hx, hy, hz, rfl, hb1⟩; have HB1 := Lib.hid hb1; clear hb1))
  have WX := Lib.hid (int_word x (by omega))
  have WY := Lib.hid (int_word y (by omega))
  have WZ := Lib.hid (int_word z (by omega))
  generalize floatOfInt .f32 x = X at WX ⊢
  generalize floatOfInt .f32 y = Y at WY ⊢
  generalize floatOfInt .f32 z = Z at WZ ⊢
  have HB2 := Lib.hid (HB1.out.trans ((below_alloc w1 (.cells #[.float .f32 X, .float .f32 Y, .float .f32 Z] 26)).mono HB1.out.size))
  have HA := Lib.hid (Three.new w1 (.float .f32 X) (.float .f32 Y) (.float .f32 Z) 26)
  have HT2 := Lib.hid (keep1 HB2.out HT.out)
  have HM2 := Lib.hid (keep1 HB2.out HM.out)
  have HBA2 := Lib.hid (HBA.out.step HB2.out)
  have HBB2 := Lib.hid (HBB.out.step HB2.out)
  have HK2 := Lib.hid HB2.out
  clear HB1 HB2 HT HM HBA HBB
  generalize w1.heap.size = A at HA ⊢
  generalize w1.alloc (.cells #[.float .f32 X, .float .f32 Y, .float .f32 Z] 26) = W1 at HA HT2 HM2 HBA2 HBB2 HK2 ⊢
  go_upto_region 5 with (first | (go_at_call 5; refine (intvector_any pb m d _ HBB2.out (by omega)).mono ?_; rintro e w2 ⟨x', y', z', hx', hy', hz', rfl, hb2⟩; have HB2 := Lib.hid hb2; clear hb2))
  have WX' := Lib.hid (int_word x' (by omega))
  have WY' := Lib.hid (int_word y' (by omega))
  have WZ' := Lib.hid (int_word z' (by omega))
  generalize floatOfInt .f32 x' = X' at WX' ⊢
  generalize floatOfInt .f32 y' = Y' at WY' ⊢
  generalize floatOfInt .f32 z' = Z' at WZ' ⊢
  have HB3 := Lib.hid (HB2.out.trans ((below_alloc w2 (.cells #[.float .f32 X', .float .f32 Y', .float .f32 Z'] 26)).mono HB2.out.size))
  have HV := Lib.hid (All.mk (HA.out.below HB3.out) (Three.new w2 (.float .f32 X') (.float .f32 Y') (.float .f32 Z') 26) (keep1 HB3.out HT2.out) (keep1 HB3.out HM2.out) (HBA2.out.step HB3.out) (HK2.out.trans (HB3.out.mono HK2.out.size)))
  clear HK2 HB2 HB3 HT2 HM2 HBA2 HBB2 HA
  generalize w2.heap.size = B at HV ⊢
  generalize w2.alloc (.cells #[.float .f32 X', .float .f32 Y', .float .f32 Z'] 26) = W2 at HV ⊢
  obtain ⟨C, D, S, T, U, N, F, R0, R1, i, j, q, v, ⟨C0, C1, C2, hC⟩, ⟨D0, D1, D2, hD⟩, ⟨S0, S1, S2, hS⟩, ⟨T0, T1, T2, hTT⟩, ⟨U0, U1, U2, hU⟩, ⟨N0, N1, N2, hN⟩, ⟨F0, F1, F2, hF⟩, ⟨P0, P1, P2, hP⟩, ⟨Q0, Q1, Q2, hQ⟩, f⟩ :=
    facts ⟨⟨WX.out, hx⟩, ⟨WY.out, hy⟩, ⟨WZ.out, hz⟩⟩ ⟨⟨WX'.out, hx'⟩, ⟨WY'.out, hy'⟩, ⟨WZ'.out, hz'⟩⟩
  clear WX WY WZ WX' WY' WZ' hx hy hz hx' hy' hz' x y z x' y' z' w1 w2
  subst hC hD hS hTT hU hN hF hP hQ
  simp only [vec] at f
  have HF := Lib.hid f
  have e1 := f.e1
  have e2 := f.e2
  have e3 := f.e3
  clear f
  obtain ⟨⟨a0, a1, a2, -, -, -⟩, ⟨b0, b1, b2, -, -, -⟩, -, -, -, -⟩ := HV.out
  go_upto_region 6 with (first | (go_at_call 6; refine (HF.out.h1 _).mono ?_; rintro e w3 ⟨rfl, hb⟩; have HB := Lib.hid hb; clear hb))
  clear a0 a1 a2 b0 b1 b2
  have HB2 := Lib.hid (HB.out.trans ((below_alloc w3 (.cells #[.float .f32 C0, .float .f32 C1, .float .f32 C2] 26)).mono HB.out.size))
  have HV3 := Lib.hid (HV.out.below HB2.out)
  have HC := Lib.hid (Three.new w3 (.float .f32 C0) (.float .f32 C1) (.float .f32 C2) 26)
  clear HB HB2 HV
  generalize w3.heap.size = c at HC ⊢
  generalize w3.alloc (.cells #[.float .f32 C0, .float .f32 C1, .float .f32 C2] 26) = W3 at HC HV3 ⊢
  obtain ⟨⟨a0, a1, a2, -, -, -⟩, ⟨b0, b1, b2, -, -, -⟩, -, -, -, -⟩ := HV3.out
  go_upto_region 7 with (first | (go_at_call 6; refine (HF.out.h2 _).mono ?_; rintro e w4 ⟨rfl, hb⟩; have HB := Lib.hid hb; clear hb))
  clear a0 a1 a2 b0 b1 b2
  have HB2 := Lib.hid (HB.out.trans ((below_alloc w4 (.cells #[.float .f32 D0, .float .f32 D1, .float .f32 D2] 26)).mono HB.out.size))
  have HV4 := Lib.hid (HV3.out.below HB2.out)
  have HC4 := Lib.hid (HC.out.below HB2.out)
  have HD := Lib.hid (Three.new w4 (.float .f32 D0) (.float .f32 D1) (.float .f32 D2) 26)
  clear HB HB2 HV3 HC
  generalize w4.heap.size = d at HD ⊢
  generalize w4.alloc (.cells #[.float .f32 D0, .float .f32 D1, .float .f32 D2] 26) = W4 at HC4 HV4 HD ⊢
  obtain ⟨⟨a0, a1, a2, -, -, -⟩, ⟨b0, b1, b2, -, -, -⟩, -, -, -, -⟩ := HV4.out
  go_cut [9] (fun s9 wx => ∃ t : Nat, s9 = .pointer (some ⟨t, 0, none⟩) ∧ Below W4.heap.size W4 wx ∧ wx.cell? ⟨t, 0, none⟩ = some (.float .f32 T0) ∧ wx.cell? ⟨t, 1, none⟩ = some (.float .f32 T1) ∧ wx.cell? ⟨t, 2, none⟩ = some (.float .f32 T2))
  case first =>
    go_region_held3 (fun w' => Below W4.heap.size W4 w' ∧ w'.cell? ⟨A, 0, none⟩ = some (.float .f32 X) ∧ w'.cell? ⟨A, 1, none⟩ = some (.float .f32 Y) ∧ w'.cell? ⟨A, 2, none⟩ = some (.float .f32 Z) ∧
        w'.cell? ⟨B, 0, none⟩ = some (.float .f32 X') ∧ w'.cell? ⟨B, 1, none⟩ = some (.float .f32 Y') ∧ w'.cell? ⟨B, 2, none⟩ = some (.float .f32 Z'))
      ((refine mkS a0 a1 a2 b0 b1 b2 ?_
        first
          | exact (Below.refl _ _).drew
          | exact Below.alloc (‹Below _ _ _ ∧ _›).1 (‹Below _ _ _ ∧ _›).1.size _
          | exact Below.alloc HBW.out HBW.out.size _
          | exact Below.setCell (Below.setCell (Below.setCell (‹Below _ _ _ ∧ _›).1 (by first | assumption | exact Nat.le_refl _) _) (by first | assumption | exact Nat.le_refl _) _) (by first | assumption | exact Nat.le_refl _) _
          | exact Below.trans (‹Below _ _ _ ∧ _›).1 (Below.mono hb (‹Below _ _ _ ∧ _›).1.size)))
      (first
        | (go_at_call 8; refine (HF.out.h3 _).mono ?_; rintro e w5 ⟨rfl, hb⟩; have HBW := Lib.hid (Below.trans (‹Below _ _ _ ∧ _›).1 (Below.mono hb (‹Below _ _ _ ∧ _›).1.size)); have hsz := HBW.out.size; (first | have NN := Lib.hid ((Three.new W4 _ _ _ _).drew.below hb : Three _ W4.heap.size _ _ _) | have NN := Lib.hid ((Three.new _ _ _ _ _).below hb) | skip); (try obtain ⟨n0, n1, n2, n3, n4, n5⟩ := NN.out))
        | (go_at_call 7; refine (HF.out.h4 _).mono ?_; rintro e w5 ⟨rfl, hb⟩; have HBW := Lib.hid (Below.trans (‹Below _ _ _ ∧ _›).1 (Below.mono hb (‹Below _ _ _ ∧ _›).1.size)); have hsz := HBW.out.size; (first | have NN := Lib.hid ((Three.new W4 _ _ _ _).drew.below hb : Three _ W4.heap.size _ _ _) | have NN := Lib.hid ((Three.new _ _ _ _ _).below hb) | have NN := Lib.hid (NN.out.below hb) | skip); (try obtain ⟨n0, n1, n2, n3, n4, n5⟩ := NN.out)))
    · go_wp2_with fail
      go_meet
      exact ⟨_, rfl, (‹Below _ _ _ ∧ _›).1, alloc_cell _ _ _ 0, alloc_cell _ _ _ 1, alloc_cell _ _ _ 2⟩
    · go_wp2_with fail
      go_meet
      have q := NN.out.setAll (.float .f32 T0) (.float .f32 T1) (.float .f32 T2)
      exact ⟨_, rfl, (‹Below _ _ _ ∧ _›).1, q.c0, q.c1, q.c2⟩
    · go_wp2_with fail
      go_meet
      have q := NN.out.setAll (.float .f32 T0) (.float .f32 T1) (.float .f32 T2)
      exact ⟨_, rfl, (‹Below _ _ _ ∧ _›).1, q.c0, q.c1, q.c2⟩
  case rest =>
    obtain ⟨t, rfl, hbt, t0, t1, t2⟩ := hcut
    clear a0 a1 a2 b0 b1 b2
    have HV5 := Lib.hid (HV4.out.below hbt)
    have HC5 := Lib.hid (HC4.out.below hbt)
    have HD5 := Lib.hid (HD.out.below hbt)
    have HT5 := Lib.hid (And.intro t0 (And.intro t1 t2))
    clear hbt t0 t1 t2 HV4 HC4 HD
    obtain ⟨⟨a0, a1, a2, -, -, -⟩, -, -, -, -, -⟩ := HV5.out
    go_upto_region 9 with (first | (go_at_call 9; with_reducible refine (HF.out.h5 _).mono ?_; rintro e w6 ⟨rfl, hb⟩; have HB := Lib.hid hb; clear hb))
    clear a0 a1 a2
    have HB2 := Lib.hid (HB.out.trans ((below_alloc w6 (.cells #[.float .f32 U0, .float .f32 U1, .float .f32 U2] 26)).mono HB.out.size))
    have HV6 := Lib.hid (HV5.out.below HB2.out)
    have HC6 := Lib.hid (HC5.out.below HB2.out)
    have HD6 := Lib.hid (HD5.out.below HB2.out)
    have HT6 := Lib.hid (And.intro (keep1 HB2.out HT5.out.1) (And.intro (keep1 HB2.out HT5.out.2.1) (keep1 HB2.out HT5.out.2.2)))
    have HU := Lib.hid (Three.new w6 (.float .f32 U0) (.float .f32 U1) (.float .f32 U2) 26)
    clear HB HB2 HV5 HC5 HD5 HT5
    generalize w6.heap.size = u at HU ⊢
    generalize w6.alloc (.cells #[.float .f32 U0, .float .f32 U1, .float .f32 U2] 26) = W6 at HC6 HV6 HD6 HT6 HU ⊢
    obtain ⟨⟨a0, a1, a2, -, -, -⟩, ⟨b0, b1, b2, -, -, -⟩, -, -, -, -⟩ := HV6.out
    obtain ⟨c0, c1, c2, -, -, -⟩ := HC6.out
    obtain ⟨d0, d1, d2, -, -, -⟩ := HD6.out
    obtain ⟨t0, t1, t2⟩ := HT6.out
    obtain ⟨u0, u1, u2, -, -, -⟩ := HU.out
    go_cut [82] (fun s82 wx => s82 = .bool false ∧ Below W6.heap.size W6 wx)
    case first =>
      go_region_held3 (fun w' => Below W6.heap.size W6 w' ∧ w'.cell? ⟨t, 0, none⟩ = some (.float .f32 T0) ∧ w'.cell? ⟨t, 1, none⟩ = some (.float .f32 T1) ∧ w'.cell? ⟨t, 2, none⟩ = some (.float .f32 T2) ∧ w'.cell? ⟨A, 0, none⟩ = some (.float .f32 X) ∧ w'.cell? ⟨A, 1, none⟩ = some (.float .f32 Y) ∧ w'.cell? ⟨A, 2, none⟩ = some (.float .f32 Z) ∧ w'.cell? ⟨c, 0, none⟩ = some (.float .f32 C0) ∧ w'.cell? ⟨c, 1, none⟩ = some (.float .f32 C1) ∧ w'.cell? ⟨c, 2, none⟩ = some (.float .f32 C2) ∧ w'.cell? ⟨B, 0, none⟩ = some (.float .f32 X') ∧ w'.cell? ⟨B, 1, none⟩ = some (.float .f32 Y') ∧ w'.cell? ⟨B, 2, none⟩ = some (.float .f32 Z') ∧ w'.cell? ⟨d, 0, none⟩ = some (.float .f32 D0) ∧ w'.cell? ⟨d, 1, none⟩ = some (.float .f32 D1) ∧ w'.cell? ⟨d, 2, none⟩ = some (.float .f32 D2) ∧ w'.cell? ⟨u, 0, none⟩ = some (.float .f32 U0) ∧ w'.cell? ⟨u, 1, none⟩ = some (.float .f32 U1) ∧ w'.cell? ⟨u, 2, none⟩ = some (.float .f32 U2))
        ((refine mkS9 t0 t1 t2 a0 a1 a2 c0 c1 c2 b0 b1 b2 d0 d1 d2 u0 u1 u2 ?_
          first
            | exact (Below.refl _ _).drew
            | exact Below.trans (‹Below _ _ _ ∧ _›).1 (Below.mono hb (‹Below _ _ _ ∧ _›).1.size)))
        (first
        | (go_at_call 10; with_reducible refine (HF.out.h6 _).mono ?_; rintro e w7 ⟨rfl, hb⟩)
        | (go_at_call 10; with_reducible refine (HF.out.h10 _).mono ?_; rintro e w7 ⟨rfl, hb⟩)
        | (go_at_call 10; with_reducible refine (HF.out.h12 _).mono ?_; rintro e w7 ⟨rfl, hb⟩)
        | (go_at_call 11; with_reducible refine (HF.out.h7 _).mono ?_; rintro e w7 ⟨rfl, hb⟩)
        | (go_at_call 11; with_reducible refine (HF.out.h8 _).mono ?_; rintro e w7 ⟨rfl, hb⟩)
        | (go_at_call 11; with_reducible refine (HF.out.h13 _).mono ?_; rintro e w7 ⟨rfl, hb⟩)
        | (go_at_call 9; with_reducible refine (HF.out.h9 _).mono ?_; rintro e w7 ⟨rfl, hb⟩)
        | (go_at_call 7; with_reducible refine (HF.out.h11 _).mono ?_; rintro e w7 ⟨rfl, hb⟩)
        | (go_at_call 12; with_reducible refine (HF.out.h14 _).mono ?_; rintro e w7 ⟨rfl, hb⟩)
        | (go_at_call 14; with_reducible refine (HF.out.h15 _).mono ?_; rintro e w7 ⟨rfl, hb⟩)
        | (go_at_call 15; with_reducible refine (HF.out.h16 _).mono ?_; rintro e w7 ⟨rfl, hb⟩)
        | (go_at_call 13; with_reducible refine (HF.out.h17 _).mono ?_; rintro e w7 ⟨rfl, hb⟩))
      all_goals
        go_wp2_with fail
        go_meet
        exact ⟨rfl, (‹Below _ _ _ ∧ _›).1⟩
    case rest =>
      obtain ⟨rfl, hbt⟩ := hcut
      clear a0 a1 a2 b0 b1 b2 c0 c1 c2 d0 d1 d2 t0 t1 t2 u0 u1 u2
      have HV7 := Lib.hid (HV6.out.below hbt)
      clear hbt HV6 HC6 HD6 HT6 HU
      obtain ⟨⟨a0, a1, a2, -, -, -⟩, ⟨b0, b1, b2, -, -, -⟩, -, -, -, -⟩ := HV7.out
      go_upto_region 11 with fail
      generalize hWW : wc = W7 at HV7 a0 a1 a2 b0 b1 b2 ⊢
      clear hWW
      go_cut [96] (fun s96 wx => s96 = .bool false ∧ Below W7.heap.size W7 wx)
      case first =>
        go_region_held3 (fun w' => Below W7.heap.size W7 w' ∧ w'.cell? ⟨A, 0, none⟩ = some (.float .f32 X) ∧ w'.cell? ⟨A, 1, none⟩ = some (.float .f32 Y) ∧ w'.cell? ⟨A, 2, none⟩ = some (.float .f32 Z) ∧
            w'.cell? ⟨B, 0, none⟩ = some (.float .f32 X') ∧ w'.cell? ⟨B, 1, none⟩ = some (.float .f32 Y') ∧ w'.cell? ⟨B, 2, none⟩ = some (.float .f32 Z'))
          ((refine mkS a0 a1 a2 b0 b1 b2 ?_
            first
              | exact (Below.refl _ _).drew
              | exact Below.trans (‹Below _ _ _ ∧ _›).1 (Below.mono hb (‹Below _ _ _ ∧ _›).1.size)))
          (first
          | (go_at_call 16; with_reducible refine (HF.out.h18 _).mono ?_; rintro e w7 ⟨rfl, hb⟩)
          | (go_at_call 16; with_reducible refine (HF.out.h20 _).mono ?_; rintro e w7 ⟨rfl, hb⟩)
          | (go_at_call 10; with_reducible refine (HF.out.h19 _).mono ?_; rintro e w7 ⟨rfl, hb⟩)
          | (go_at_call 10; with_reducible refine (HF.out.h21 _).mono ?_; rintro e w7 ⟨rfl, hb⟩))
        all_goals
          go_wp2_with fail
          go_meet
          exact ⟨rfl, (‹Below _ _ _ ∧ _›).1⟩
      case rest =>
        obtain ⟨rfl, hbt⟩ := hcut
        clear a0 a1 a2 b0 b1 b2
        have HV8 := Lib.hid (HV7.out.below hbt)
        clear hbt HV7 e1 e2 e3 HF
        go_upto_region 14 with (first | (go_at_call 17; refine (anyvector_any pa n _ _ HV8.out.s (by omega)).mono ?_; rintro e w8 ⟨x, y, z, hx, hy, hz, rfl, hb⟩; have HB := Lib.hid hb; clear hb))
        have HB2 := Lib.hid (HB.out.trans ((below_alloc w8 (.cells #[.float .f32 x, .float .f32 y, .float .f32 z] 26)).mono HB.out.size))
        have HV9 := Lib.hid (HV8.out.below HB2.out)
        have HA := Lib.hid (Three.new w8 (.float .f32 x) (.float .f32 y) (.float .f32 z) 26)
        clear HB HB2 HV8
        generalize w8.heap.size = E at HA ⊢
        generalize w8.alloc (.cells #[.float .f32 x, .float .f32 y, .float .f32 z] 26) = W8 at HA HV9 ⊢
        obtain ⟨a0, a1, a2, -, -, -⟩ := HA.out
        go_upto_region 15 with (first | (go_at_call 18; refine (vtext_any x y z _ hx hy hz HV9.out.t).mono ?_; rintro e w9 ⟨rfl, hb⟩; have HB := Lib.hid hb; clear hb))
        have HV10 := Lib.hid (HV9.out.below HB.out)
        have HA10 := Lib.hid (HA.out.below HB.out)
        clear HB HV9 HA a0 a1 a2
        have HSZ := Lib.hid (nums_size x y z)
        have HRV := Lib.hid (fun (v : World) hM hT => readvec_any x y z k v hx hy hz hM hT)
        have HSM := Lib.hid (fun (v : World) => samevec_any x y z v)
        generalize numsText [x, y, z] = TX at HSZ HRV ⊢
        generalize bits32 x = BX at HRV HSM
        generalize bits32 y = BY at HRV HSM
        generalize bits32 z = BZ at HRV HSM
        go_upto_region 16 with (first | (go_at_call 19; refine (HRV.out _ HV10.out.m HV10.out.t).mono ?_; rintro e w10 ⟨rfl, hb⟩; have HB := Lib.hid hb; clear hb))
        have HB2 := Lib.hid (HB.out.trans ((below_alloc w10 (.cells #[.float .f32 BX, .float .f32 BY, .float .f32 BZ] 26)).mono HB.out.size))
        have HA11 := Lib.hid (HA10.out.below HB2.out)
        have HV11 := Lib.hid (HV10.out.below HB2.out)
        have HN := Lib.hid (Three.new w10 (.float .f32 BX) (.float .f32 BY) (.float .f32 BZ) 26)
        clear HB HB2 HV10 HA10
        generalize w10.heap.size = G at HN ⊢
        generalize w10.alloc (.cells #[.float .f32 BX, .float .f32 BY, .float .f32 BZ] 26) = W10 at HA11 HN HV11 ⊢
        obtain ⟨a0, a1, a2, -, -, -⟩ := HA11.out
        obtain ⟨b0, b1, b2, -, -, -⟩ := HN.out
        have hsz := HSZ.out
        go_wp2_with (first | (go_at_call 20; refine (HSM.out _).mono ?_; rintro e w11 ⟨rfl, hb⟩; have HB := Lib.hid hb; clear hb))
        go_ret
        exact ⟨rfl, (HV11.out.below HB.out).k⟩
end Go.Proofs.YtpmecojegehikaaGreatDoor
