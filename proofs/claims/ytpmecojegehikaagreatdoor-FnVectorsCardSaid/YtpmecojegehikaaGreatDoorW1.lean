/- The wrap of a row that lists variables and whose contract wants the world's shape; the row of FnVectors. -/
import Derived.Test.YtpmecojegehikaaGreatDoorV1
import Derived.ProofKit
import Derived.Handed
import Derived.Shelf.Vars
import Derived.Lib.LaidU8
import Derived.Lay
import Derived.LaidMore
namespace Go.Proofs.YtpmecojegehikaaGreatDoor
open Go.ChangeShapes Go.WideShapes Go.ChangeAt Go.RowKit

section
variable {H : Type} {enc : TypeId × Value → H}
/-- The listed variables' condition and the world's shape, both handed to the contract. -/
theorem handed_laid_shaped {a : Assume} {C : Checked} {os : Os} {f : FuncId} {fn : Func} {s : ChangeSpec} {conds : List PathCond} {apart fresh handsOn again : Bool} {X : World → Array Value → Prop}
    (hX : ∀ (w w' : World) (args : Array Value), w.heap = w'.heap → X w args → X w' args)
    (own : ownKnob C.prog.godebug = none) (started : os.Started) (noInit : C.prog.inits.idxOf? f = none) (hfn : C.prog.funcs[f]? = some fn)
    (witness : ∃ (w : World) (tape : Tape) (i : Input), w.os = os ∧ (w.forCall tape i).Shaped C.prog ∧ i.vars = [] ∧ Input.okWide C.prog (w.forCall tape i) .any w.heap.size f i ∧
      ((s.pre enc C.prog fn conds apart (w.forCall tape i).memory i.args ∧ X (w.forCall tape i).memory i.args) ∧ sizedMet enc C.prog fn (OpenSpec.ofChange s) apart (w.forCall tape i).memory i.args) ∧ a.holds C.prog (lone (Frame.enter C.prog f i.args .normal) [] (w.forCall tape i)))
    (contract : ∀ (W : World) (base : Nat) (args : Array Value) (ds gs : List (DataW H)) (before : List MemPlace),
      (∀ (j : Nat) t v, fn.params[j]? = some t → args[j]? = some v → Value.okWide C.prog W .any base t v) →
      DataW.Whole enc C.prog fn.params.toList s.vars apart W args.toList ds gs before →
      X W args → W.ShapedOpen C.prog →
      Calls C.prog f args W fun e W' => ∃ v, e = .returned v ∧ s.post enc C.prog fn apart fresh handsOn again W args v W') :
    ReturnsInHanded a C os f .any (fun w args => (s.pre enc C.prog fn conds apart w args ∧ X w args) ∧ sizedMet enc C.prog fn (OpenSpec.ofChange s) apart w args) (s.post enc C.prog fn apart fresh handsOn again) := by
  refine returnsInHanded_of_calls own started noInit witness ?_
  intro w tape i _ hsh _ hok hpre _
  obtain ⟨_, _, _, fn', hfn', _, _, _, _, hval⟩ := hok
  have e : fn' = fn := Option.some.inj (hfn'.symm.trans hfn)
  subst e
  obtain ⟨⟨⟨ds, gs, before, hw, _⟩, hx⟩, _⟩ := hpre
  have hw' := DataW.Whole.of_heap (w' := w.forCall tape i) (by rfl) hw
  refine (contract (w.forCall tape i) w.heap.size i.args ds gs before hval hw' (hX _ _ _ (by rfl) hx) hsh).mono fun e W' ⟨v, he, hp⟩ => ?_
  subst he
  exact ChangeSpec.post_blind hp
end

theorem Tryz.own : ownKnob Tryz.prog.godebug = none := by kernel_rfl
theorem Tryz.laidOut : laidOutB Tryz.prog = true := by kernel_rfl
theorem Tryz.cells5 : Tryz.prog.cellsOf 5 = 1 := by kernel_rfl
theorem Tryz.cells140 : Tryz.prog.cellsOf 140 = 64 := by kernel_rfl
theorem Tryz.g6 : Tryz.prog.globalNamed "math/bits.deBruijn64tab" = some 6 := by kernel_rfl
theorem Tryz.g6Type : (Tryz.prog.globals[6]?).map (·.type) = some 140 := by kernel_rfl

/-- the numbers of the table that the text of numbers reads -/
def tab64 : List Int := [0, 1, 56, 2, 57, 49, 28, 3, 61, 58, 42, 50, 38, 29, 17, 4, 62, 47, 59, 36, 45, 43, 51, 22, 53, 39, 33, 30, 24, 18, 12, 5, 63, 55, 48, 27, 60, 41, 37, 16, 46, 35, 44, 21, 52, 32, 23, 11, 54, 26, 40, 15, 34, 20, 31, 10, 25, 14, 19, 9, 13, 8, 7, 6]
theorem tab64_get : (tab64.map fun z => Value.int .u8 z)[15]? = some (.int .u8 4) := by kernel_rfl

/-- the table's cell that the text of numbers reads -/
theorem table_cell {W : World} {l : List (String × DataW Unit)} (h : laidMet Tryz.prog l W) (hm : ("math/bits.deBruijn64tab", Lib.tabData .u8 tab64) ∈ l) : W.cell? ⟨6, 15, none⟩ = some (.int .u8 4) := by
  obtain ⟨g', t', cs, fuel, p, hg', ht', hvar, hd⟩ := Lib.laidMet.reads h hm
  obtain rfl := Option.some.inj (Tryz.g6.symm.trans hg')
  rw [Tryz.g6Type] at ht'
  obtain rfl := Option.some.inj ht'
  have e := Lib.cells_of_tab Tryz.underlying140 Tryz.underlying5 Tryz.cells5 Tryz.cells140 hd
  rw [World.var?_cell Tryz.g6 hvar 15, ← Array.getElem?_toList, e]
  exact tab64_get
theorem tab64_eq : (Rows.laid_math_bits_deBruijn64tab : DataW Unit) = Lib.tabData .u8 tab64 := by kernel_rfl
theorem tab64_mem : ("math/bits.deBruijn64tab", Lib.tabData .u8 tab64) ∈ Rows.fnVectorsRow.laid := tab64_eq ▸ (.tail _ (.head _))

/-- the bytes of a slice that came in -/
theorem bytes_of_arg {H : Type} {enc : TypeId × Value → H} {W : World} {a : Option Addr} {n c : Nat} {d : DataW H} {p : List MemPlace}
    (h : DataW.Trod enc Tryz.prog W 0 (fun _ => true) true 22 (.slice a n c) d p) : Bytes W a n W.heap.size := by
  obtain ⟨fuel, hf⟩ := h
  rcases open_ints Tryz.underlying22 Tryz.underlying5 Tryz.cells5 hf with ⟨hcs, _⟩ | ⟨a', n', c', zs, hcs, _, hl, _, hz, _, hcell, hwf⟩
  · simp [Value.cells] at hcs
    exact Or.inl hcs.2.1
  · simp [Value.cells] at hcs
    obtain ⟨rfl, rfl, rfl⟩ := hcs
    simp only [if_true] at hz
    by_cases h0 : n = 0
    · exact Or.inl h0
    · obtain ⟨b, off, spot⟩ := a'
      have hspot : spot = none := by simpa [Addr.add] using World.cell?_spot (hcell 0 (by omega))
      subst hspot
      refine Or.inr ⟨b, off, rfl, ?_, fun j hj => ?_⟩
      · have h1 := World.block_lt_of_cell? W _ (hcell 0 (by omega))
        simpa [Addr.add] using h1
      · have hj' : j < zs.length := by omega
        have h1 := hcell j hj'
        have h2 := hwf (zs.getD j 0) (by rw [show zs.getD j 0 = zs[j] by simp [hj']]; exact List.getElem_mem hj')
        refine ⟨zs.getD j 0, ?_, ?_, ?_⟩
        rotate_left 2
        · have e : (⟨b, off, none⟩ : Addr).add j = ⟨b, off + j, none⟩ := by cases j <;> simp [Addr.add]
          rw [← e]; exact h1
        · have : 0 ≤ zs.getD j 0 ∧ zs.getD j 0 ≤ 255 := by simpa [Lit.wf, IntKind.min, IntKind.max, IntKind.signed, IntKind.bits] using h2
          exact this.1
        · have : 0 ≤ zs.getD j 0 ∧ zs.getD j 0 ≤ 255 := by simpa [Lit.wf, IntKind.min, IntKind.max, IntKind.signed, IntKind.bits] using h2
          exact this.2

theorem vectors_all (pa pb : Option Addr) (n c m d : Nat) (w : World) (k : Int)
    (hba : Bytes w pa n w.heap.size) (hbb : Bytes w pb m w.heap.size) (hT : w.cell? ⟨6, 15, none⟩ = some (.int .u8 4)) (hM : w.cell? ⟨4, 0, none⟩ = some (.int .i64 k)) :
    Calls Tryz.prog 3 #[.slice pa n c, .slice pb m d] w fun e w' => e = .returned (.bool true) ∧ Below w.heap.size w w' := by
  by_cases h : (n : Int) ≤ 1048576 ∧ (m : Int) ≤ 1048576
  · exact vectors_walk pa pb n c m d w k h.1 h.2 hba hbb hT hM
  · exact vectors_long pa pb n c m d w h
end Go.Proofs.YtpmecojegehikaaGreatDoor
