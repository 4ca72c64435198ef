/- What (block).with hands back: the 64 bytes, each turned, in memory of its own. -/
import Derived.Test.YtgfkmbdipemgmaaDoorBegin
namespace Go.Proofs.YtgfkmbdipemgmaaDoor
open Go Go.RowKit

def tk (f : Nat → Int) (c : Int) (k j : Nat) : Int := if j < k then turned f c j else f j

set_option maxHeartbeats 1000000 in
theorem with16 (f : Nat → Int) (c : Int) (w : World) :
    Calls Tryd.prog 16 #[.agg (bytesV 64 f), .int .u8 c] w fun e w' => ∃ B, e = .returned (.slice (some ⟨B, 0, none⟩) 64 64) ∧ w.heap.size ≤ B ∧ w'.heap[B]? = some (.cells (bytesV 64 (turned f c)) 40 (0, 0)) ∧ Below w.heap.size w w' := by
  have hsz : (bytesV 64 f).size = 64 := bytesV_size 64 f
  go_enter Tryd.func16, Tryd.ntmps16
  go_wp2
  go_loopw [6] (fun v wr => ∃ k : Nat, k ≤ 64 ∧ v = .int .i64 k ∧ wr.heap[w.heap.size]? = some (.cells (bytesV 64 (tk f c k)) 40 (0, 0)) ∧ Below w.heap.size w wr) (fun v _ => 64 - (intOf v).toNat)
  case atStart =>
    exact ⟨0, by omega, rfl, by rw [show tk f c 0 = f from funext fun j => if_neg (by omega)]; exact heap_alloc_new w _, (Below.refl _ _).alloc (Nat.le_refl _) _⟩
  case round =>
    obtain ⟨k, hk, rfl, hblk, hb⟩ := hrel
    have HBLK := Lib.hid hblk; have HB := Lib.hid hb
    by_cases hlt : k < 64
    · have ca : wr.cell? ⟨w.heap.size, k, none⟩ = some (.int .u8 (f k)) := by rw [cell_of_row wr _ _ _ _ _ hblk, bytesV_get hlt]; unfold tk; rw [if_neg (by omega)]
      have fa : wr.frozen? ⟨w.heap.size, k, none⟩ = false := frozen_of_row wr _ _ _ _ hblk
      clear hblk hb
      have k64 : (k : Int) < 64 := by omega
      go_wp2
      refine ⟨⟨k + 1, by omega, by go_num, ?_, HB.out.setCell (by simp) _⟩, by simp [intOf]; omega⟩
      rw [heap_setCell_same wr _ _ _ _ _ HBLK.out, bytesV_set]
      congr 2
      apply bytesV_congr
      intro j _
      unfold tk
      by_cases e : j = k
      · subst e; rw [if_pos rfl, if_pos (by omega)]; rfl
      · rw [if_neg e]
        by_cases l : j < k
        · rw [if_pos l, if_pos (by omega)]
        · rw [if_neg l, if_neg (by omega)]
    · have ek : k = 64 := by omega
      subst ek
      clear hblk hb
      simp only [Int.cast_ofNat_Int]
      go_wp2
      go_ret
      refine ⟨_, rfl, Nat.le_refl _, ?_, HB.out⟩
      rw [HBLK.out, bytesV_congr (fun j hj => show tk f c 64 j = turned f c j from if_pos hj)]
end Go.Proofs.YtgfkmbdipemgmaaDoor
