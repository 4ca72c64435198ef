/- What (words).told hands back: the eight words, each in four bytes. -/
import Derived.Test.YtgfkmbdipemgmaaDoorRowsOf
import Derived.Test.YtgfkmbdipemgmaaDoorOwn
import Derived.WalkLawsBesides
import Derived.Lib.Hide
namespace Go.Proofs.YtgfkmbdipemgmaaDoor
open Go.RowKit

theorem idx43_0 (h : Nat → Int) (w : World) : (Instr.index 43 (.agg #[.int .u32 (h 0), .int .u32 (h 1), .int .u32 (h 2), .int .u32 (h 3), .int .u32 (h 4), .int .u32 (h 5), .int .u32 (h 6), .int .u32 (h 7)]) (.int .i64 ((0 : Nat) : Int))).run Tryd.prog w = .ok (.int .u32 (h 0)) w := by kernel_rfl
theorem idx43_1 (h : Nat → Int) (w : World) : (Instr.index 43 (.agg #[.int .u32 (h 0), .int .u32 (h 1), .int .u32 (h 2), .int .u32 (h 3), .int .u32 (h 4), .int .u32 (h 5), .int .u32 (h 6), .int .u32 (h 7)]) (.int .i64 ((1 : Nat) : Int))).run Tryd.prog w = .ok (.int .u32 (h 1)) w := by kernel_rfl
theorem idx43_2 (h : Nat → Int) (w : World) : (Instr.index 43 (.agg #[.int .u32 (h 0), .int .u32 (h 1), .int .u32 (h 2), .int .u32 (h 3), .int .u32 (h 4), .int .u32 (h 5), .int .u32 (h 6), .int .u32 (h 7)]) (.int .i64 ((2 : Nat) : Int))).run Tryd.prog w = .ok (.int .u32 (h 2)) w := by kernel_rfl
theorem idx43_3 (h : Nat → Int) (w : World) : (Instr.index 43 (.agg #[.int .u32 (h 0), .int .u32 (h 1), .int .u32 (h 2), .int .u32 (h 3), .int .u32 (h 4), .int .u32 (h 5), .int .u32 (h 6), .int .u32 (h 7)]) (.int .i64 ((3 : Nat) : Int))).run Tryd.prog w = .ok (.int .u32 (h 3)) w := by kernel_rfl
theorem idx43_4 (h : Nat → Int) (w : World) : (Instr.index 43 (.agg #[.int .u32 (h 0), .int .u32 (h 1), .int .u32 (h 2), .int .u32 (h 3), .int .u32 (h 4), .int .u32 (h 5), .int .u32 (h 6), .int .u32 (h 7)]) (.int .i64 ((4 : Nat) : Int))).run Tryd.prog w = .ok (.int .u32 (h 4)) w := by kernel_rfl
theorem idx43_5 (h : Nat → Int) (w : World) : (Instr.index 43 (.agg #[.int .u32 (h 0), .int .u32 (h 1), .int .u32 (h 2), .int .u32 (h 3), .int .u32 (h 4), .int .u32 (h 5), .int .u32 (h 6), .int .u32 (h 7)]) (.int .i64 ((5 : Nat) : Int))).run Tryd.prog w = .ok (.int .u32 (h 5)) w := by kernel_rfl
theorem idx43_6 (h : Nat → Int) (w : World) : (Instr.index 43 (.agg #[.int .u32 (h 0), .int .u32 (h 1), .int .u32 (h 2), .int .u32 (h 3), .int .u32 (h 4), .int .u32 (h 5), .int .u32 (h 6), .int .u32 (h 7)]) (.int .i64 ((6 : Nat) : Int))).run Tryd.prog w = .ok (.int .u32 (h 6)) w := by kernel_rfl
theorem idx43_7 (h : Nat → Int) (w : World) : (Instr.index 43 (.agg #[.int .u32 (h 0), .int .u32 (h 1), .int .u32 (h 2), .int .u32 (h 3), .int .u32 (h 4), .int .u32 (h 5), .int .u32 (h 6), .int .u32 (h 7)]) (.int .i64 ((7 : Nat) : Int))).run Tryd.prog w = .ok (.int .u32 (h 7)) w := by kernel_rfl
theorem idx43 (h : Nat → Int) (k : Nat) (hk : k < 8) (w : World) :
    (Instr.index 43 (.agg #[.int .u32 (h 0), .int .u32 (h 1), .int .u32 (h 2), .int .u32 (h 3), .int .u32 (h 4), .int .u32 (h 5), .int .u32 (h 6), .int .u32 (h 7)]) (.int .i64 (k : Int))).run Tryd.prog w = .ok (.int .u32 (h k)) w := by
  have e : k = 0 ∨ k = 1 ∨ k = 2 ∨ k = 3 ∨ k = 4 ∨ k = 5 ∨ k = 6 ∨ k = 7 := by omega
  rcases e with rfl | rfl | rfl | rfl | rfl | rfl | rfl | rfl
  · exact idx43_0 h w
  · exact idx43_1 h w
  · exact idx43_2 h w
  · exact idx43_3 h w
  · exact idx43_4 h w
  · exact idx43_5 h w
  · exact idx43_6 h w
  · exact idx43_7 h w

theorem info25 : (Tryd.prog.info? 25).map (·.size) = some 32 := by kernel_rfl

structure OwnT (B : Nat) (w wr : World) (x : Nat → Int) : Prop where
  below : Below B w wr
  size : B + 2 < wr.heap.size
  res : wr.heap[B + 1]? = some (.cells (bytesV 32 (fun _ => 0)) 25 (0, 0))
  arr : wr.heap[B + 1 + 1]? = some (.cells (bytesV 32 x) 25 (0, 0))

theorem OwnT.put {B : Nat} {w wr : World} {x y : Nat → Int} (o : OwnT B w wr x) (i : Nat) (v : Int) (hy : ∀ j, j < 32 → (if j = i then v else x j) = y j) :
    OwnT B w (wr.setCell ⟨B + 1 + 1, i, none⟩ (.int .u8 v)) y where
  below := o.below.setCell (by simp; omega) _
  size := by have := o.size; simp; omega
  res := by rw [heap_setCell_other wr _ _ _ (by simp)]; exact o.res
  arr := by rw [heap_setCell_same wr _ _ _ _ _ o.arr, bytesV_set, bytesV_congr hy]

/-- The bytes, as far as n of them are there. -/
def o1 (h : Nat → Int) (n j : Nat) : Int := if j < n then outF h j else 0

theorem OwnT.byte {B : Nat} {w wr : World} {h : Nat → Int} {n : Nat} (o : OwnT B w wr (o1 h n)) (i : Nat) (hi : i = n) (v : Int) (hv : v = outF h n) : OwnT B w (wr.setCell ⟨B + 1 + 1, i, none⟩ (.int .u8 v)) (o1 h (n + 1)) := by
  subst hi
  refine o.put i v (fun j _ => ?_)
  unfold o1
  by_cases e : j = i
  · subst e; rw [if_pos rfl, if_pos (by omega), hv]
  · rw [if_neg e]
    by_cases l : j < i
    · rw [if_pos l, if_pos (by omega)]
    · rw [if_neg l, if_neg (by omega)]

theorem OwnT.start (w : World) (h : Nat → Int) (o : Obj) (A : Array Value) (hA : A = bytesV 32 (fun _ => 0)) {n : Nat} (hn : n = 0) :
    OwnT w.heap.size w (((w.alloc o).alloc (.cells A 25)).alloc (.cells A 25)) (o1 h n) := by
  subst hA hn
  obtain ⟨_, e2, e3⟩ := block3 w o (.cells (bytesV 32 (fun _ => 0)) 25) (.cells (bytesV 32 (fun _ => 0)) 25)
  exact ⟨(((Below.refl _ _).alloc (Nat.le_refl _) _).alloc (by simp) _).alloc (by simp; omega) _, by simp, e2, e3⟩

set_option maxHeartbeats 4000000 in
set_option maxRecDepth 100000 in
theorem told19 (h : Nat → Int) (w : World) :
    Calls Tryd.prog 19 #[.agg #[.int .u32 (h 0), .int .u32 (h 1), .int .u32 (h 2), .int .u32 (h 3), .int .u32 (h 4), .int .u32 (h 5), .int .u32 (h 6), .int .u32 (h 7)]] w fun e w' => e = .returned (.agg (bytesV 32 (outF h))) ∧ Below w.heap.size w w' := by
  go_enter Tryd.func19, Tryd.ntmps19
  go_wp2
  go_loopw [8] (fun c wr => ∃ k : Nat, k ≤ 8 ∧ c = .int .i64 k ∧ OwnT w.heap.size w wr (o1 h (4 * k))) (fun c _ => 8 - (intOf c).toNat)
  case atStart =>
    refine ⟨0, by omega, rfl, ?_⟩
    exact OwnT.start w h _ _ rfl rfl
  case round =>
    obtain ⟨k, hk, rfl, HO⟩ := hrel
    by_cases hlt : k < 8
    · have hix := fun w => idx43 h k hlt w
      have k8 : (k : Int) < 8 := by omega
      go_wp2
      obtain ⟨wo, hwo⟩ : ∃ wo : World, wo = wr := ⟨_, rfl⟩
      rw [← hwo] at HO ⊢
      clear hwo hix
      go_loopw [12] (fun c wr => ∃ j : Nat, j ≤ 4 ∧ c = .int .i64 j ∧ OwnT w.heap.size w wr (o1 h (4 * k + j))) (fun c _ => 4 - (intOf c).toNat)
      case atStart => exact ⟨0, by omega, rfl, HO⟩
      case round =>
        clear HO
        obtain ⟨j, hj, rfl, HO⟩ := hrel
        by_cases hjl : j < 4
        · have ca : wr.cell? ⟨w.heap.size + 1 + 1, 4 * k + j, none⟩ = some (.int .u8 (o1 h (4 * k + j) (4 * k + j))) := by rw [cell_of_row wr _ _ _ _ _ HO.arr, bytesV_get (by omega)]
          have fa : wr.frozen? ⟨w.heap.size + 1 + 1, 4 * k + j, none⟩ = false := frozen_of_row wr _ _ _ _ HO.arr
          have e4 : (4 * k + j) / 4 = k := by omega
          have e5 : (4 * k + j) % 4 = j := by omega
          have hv : outF h (4 * k + j) = h k / 2 ^ (24 - 8 * j) % 256 := by unfold outF; rw [e4, e5]
          have HV := Lib.hid hv
          clear hv e4 e5
          have k8 : (k : Int) < 8 := by omega
          have ej : j = 0 ∨ j = 1 ∨ j = 2 ∨ j = 3 := by omega
          rcases ej with rfl | rfl | rfl | rfl
          · simp only [Int.cast_ofNat_Int, Nat.add_zero] at ca fa ⊢
            go_wp2
            exact ⟨⟨1, by omega, rfl, HO.byte (4 * k + 0) rfl _ HV.out.symm⟩, by simp [intOf]⟩
          · simp only [Int.cast_ofNat_Int] at ca fa ⊢
            go_wp2
            exact ⟨⟨2, by omega, rfl, HO.byte (4 * k + 1) rfl _ HV.out.symm⟩, by simp [intOf]⟩
          · simp only [Int.cast_ofNat_Int] at ca fa ⊢
            go_wp2
            exact ⟨⟨3, by omega, rfl, HO.byte (4 * k + 2) rfl _ HV.out.symm⟩, by simp [intOf]⟩
          · simp only [Int.cast_ofNat_Int] at ca fa ⊢
            go_wp2
            exact ⟨⟨4, by omega, rfl, HO.byte (4 * k + 3) rfl _ (HV.out.trans (by simp)).symm⟩, by simp [intOf]⟩
        · have ej : j = 4 := by omega
          subst ej
          simp only [Int.cast_ofNat_Int]
          go_wp2
          exact ⟨⟨k + 1, by omega, by go_num, HO⟩, by simp [intOf]; omega⟩
    · have ek : k = 8 := by omega
      subst ek
      simp only [Int.cast_ofNat_Int]
      have ef : wr.heap[w.heap.size + 1 + 1]? = some (.cells (bytesV 32 (outF h)) 25 (0, 0)) := by
        rw [HO.arr, bytesV_congr (fun j hj => show o1 h (4 * 8) j = outF h j from if_pos (by omega))]
      have er := HO.res
      have hi : ∀ f, (Tryd.prog.info? 25).map (·.size) = some (bytesV 32 f).size := fun f => by rw [bytesV_size]; exact info25
      have hb := HO.below
      clear HO
      have EF := Lib.hid ef; have ER := Lib.hid er; have HI := Lib.hid hi
      clear ef er hi
      go_wp2_with (first | (with_reducible refine wpList_load_row rfl 25 _ rfl (w.heap.size + 1 + 1) rfl 25 _ _ _ EF.out Tryd.underlying25 rfl (HI.out _) ?_) | (with_reducible refine wpList_store_row rfl 25 _ _ rfl (w.heap.size + 1) _ rfl rfl 25 _ ER.out (HI.out _) (by rw [bytesV_size, bytesV_size]) (bytesV_one _ _) ?_))
      exact bodyPost_ret (v := .agg (bytesV 32 (outF h))) (results_cell_row Tryd.results19 _ _ (w.heap.size + 1) 25 (bytesV 32 (outF h)) (0, 0) _ rfl (setRow_heap _ _ _ _ _ _ ER.out) Tryd.underlying25 rfl (HI.out _)) rfl ⟨rfl, below_setRow hb (by omega) _⟩
end Go.Proofs.YtgfkmbdipemgmaaDoor
