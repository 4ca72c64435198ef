/- From what a row says of the start to what the walks ask: the table, the bytes of an argument, a start that fits. -/
import Derived.Test.YtgfkmbdipemgmaaDoorLawSums
import Derived.Handed
import Derived.ProofKit
import Derived.SizedLaws
import Derived.ChangeSlices
import Derived.Lib.LaidTab
import Derived.LaidHandle
namespace Go.Proofs.YtgfkmbdipemgmaaDoor
open Go Go.ChangeShapes Go.WideShapes Go.ChangeAt Go.RowKit

theorem own : ownKnob Tryd.prog.godebug = none := by kernel_rfl
theorem laidOut : laidOutB Tryd.prog = true := by kernel_rfl
theorem gRounds : Tryd.prog.globalNamed "groat/sha.rounds" = some 0 := by kernel_rfl
theorem gType : (Tryd.prog.globals[0]?).map (·.type) = some 52 := by kernel_rfl
theorem cells36 : Tryd.prog.cellsOf 36 = 1 := by kernel_rfl
theorem cells52 : Tryd.prog.cellsOf 52 = 64 := by kernel_rfl
theorem cells5 : Tryd.prog.cellsOf 5 = 1 := by kernel_rfl
theorem bytes5 : Tryd.prog.bytesOf 5 = 1 := by kernel_rfl

/-- A start that fits: the table laid. -/
noncomputable def laidWorld (os : Os) : World :=
  { World.holding Tryd.prog os ⟨#[], #[], []⟩ with heap := (World.holding Tryd.prog os ⟨#[], #[], []⟩).heap.modify 0 fun
      | .cells _ t frozen => .cells (kon.map fun z => Value.int .u32 z).toArray t frozen
      | o => o }

theorem cell_below {w : World} {a : Addr} {v : Value} (h : w.cell? a = some v) : a.block < w.heap.size := by
  rcases Nat.lt_or_ge a.block w.heap.size with h1 | h1
  · exact h1
  · unfold World.cell? at h
    rw [Array.getElem?_eq_none h1] at h
    cases h

theorem k0_of_laid {W : World} (h : laidMetH Tryd.prog [("groat/sha.rounds", Rows.laid_groat_sha_rounds)] W) : K0 W := by
  have h' : laidMet Tryd.prog [("groat/sha.rounds", Lib.tabData .u32 kon)] W := h
  have ht := Lib.tabIs_of_head gRounds gType Tryd.underlying52 Tryd.underlying36 cells36 cells52 h'
  have hc : ∀ j, j < 64 → W.cell? ⟨0, j, none⟩ = some (.int .u32 (kon.getD j 0)) := fun j hj => ht.cell gRounds j hj
  exact ⟨cell_below (hc 0 (by omega)), hc⟩

/-- The bytes of an argument. -/
theorem open_bytes {H : Type} {enc : TypeId × Value → H} {W : World} {base : Nat} {v : Value} {d : DataW H} {p : List MemPlace} {ts : List TypeId} {ds : List (DataW H)} {i : Nat} (hval : Value.okWide Tryd.prog W .any base 22 v)
    (h : DataW.Trod enc Tryd.prog W 0 (fun _ => true) true 22 v d p) (hsz : (DataW.weightsEach Tryd.prog ts ds).all (· ≤ reachBytes) = true) (ht : ts[i]? = some 22) (hd : ds[i]? = some d) :
    ∃ (len : Nat) (f : Nat → Int), Rx W v len f ∧ len ≤ 140737488351232 ∧ (∀ j, 0 ≤ f j) ∧ (∀ j, f j ≤ 255) := by
  obtain ⟨a, len, cap, rfl⟩ := okWide_slice Tryd.underlying22 hval
  obtain ⟨fuel, hf0⟩ := h
  have hf : DataW.trod enc Tryd.prog W 0 (fun _ => true) true fuel 22 [.slice a len cap] = some (d, p) := hf0
  rcases open_ints Tryd.underlying22 Tryd.underlying5 cells5 hf with ⟨hcs, _⟩ | ⟨a', len', cap', zs, hcs, _, hl, _, hz, hx, hcell, hwf⟩
  · simp at hcs
    obtain ⟨rfl, rfl, rfl⟩ := hcs
    exact ⟨0, fun _ => 0, .inl ⟨rfl, rfl⟩, by omega, fun _ => Int.le_refl 0, fun _ => by show (0 : Int) ≤ 255; omega⟩
  · simp at hcs
    obtain ⟨rfl, rfl, rfl⟩ := hcs
    simp only [if_true] at hz
    simp only [Value.okWide, Tryd.underlying22, Cell.okWide, Cell.ok] at hval
    obtain ⟨_, _, hhas⟩ := hval
    obtain ⟨_, hspot, row, cells, hshape, _⟩ := hhas
    obtain ⟨b, off, spot⟩ := a'
    simp only at hspot
    subst hspot
    have hb : b < W.heap.size := by
      rcases Nat.lt_or_ge b W.heap.size with h1 | h1
      · exact h1
      · unfold World.shape? at hshape
        rw [Array.getElem?_eq_none h1] at hshape
        cases hshape
    have hdd : d = .slice (lits .u8 (zs.take len)) (lits .u8 (zs.drop len)) := congrArg Prod.fst hx
    have hw := sized_slice hsz ht (by rw [hd, hdd]) Tryd.underlying22
    rw [bytes5] at hw
    have hbd : ∀ j, 0 ≤ zs.getD j 0 ∧ zs.getD j 0 ≤ 255 := fun j => by
      by_cases hj : j < zs.length
      · have hm : zs.getD j 0 ∈ zs := by simp [List.getD_eq_getElem?_getD, hj]
        have := hwf _ hm
        simpa [Lit.wf, IntKind.min, IntKind.max, IntKind.signed, IntKind.bits] using this
      · have : zs.getD j 0 = 0 := by rw [List.getD_eq_getElem?_getD, List.getElem?_eq_none (by omega)]; rfl
        omega
    refine ⟨len, fun j => zs.getD j 0, .inr ⟨b, off, cap, rfl, hb, fun j hj => ?_⟩, ?_, fun j => (hbd j).1, fun j => (hbd j).2⟩
    · have := hcell j (by omega)
      rw [show (⟨b, off, none⟩ : Addr).add j = ⟨b, off + j, none⟩ by unfold Addr.add; split <;> simp_all] at this
      exact this
    · simp only [lits, List.length_map, reachBytes] at hw
      simp at hw
      omega
end Go.Proofs.YtgfkmbdipemgmaaDoor
