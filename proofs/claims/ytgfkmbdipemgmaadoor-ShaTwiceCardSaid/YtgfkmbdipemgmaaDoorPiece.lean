/- What one call of (words).piece does: the eight words that SHA-256 makes of eight words and 64 bytes; nothing that was there has changed. -/
import Derived.Test.YtgfkmbdipemgmaaDoorRot
import Derived.Test.YtgfkmbdipemgmaaDoorOwn
import Derived.WalkKit
import Derived.WalkSpells
import Derived.WalkLawsBesides
import Derived.Deep.QuietTactic
import Derived.BigQuiet
import Derived.Test.YtgfkmbdipemgmaaDoorTail
import Derived.Lib.Hide
namespace Go.Proofs.YtgfkmbdipemgmaaDoor
open Go.RowKit

theorem zeros64 : ∀ j, j < 64 → (#[.int .u32 0, .int .u32 0, .int .u32 0, .int .u32 0, .int .u32 0, .int .u32 0, .int .u32 0, .int .u32 0, .int .u32 0, .int .u32 0, .int .u32 0, .int .u32 0, .int .u32 0, .int .u32 0, .int .u32 0, .int .u32 0, .int .u32 0, .int .u32 0, .int .u32 0, .int .u32 0, .int .u32 0, .int .u32 0, .int .u32 0, .int .u32 0, .int .u32 0, .int .u32 0, .int .u32 0, .int .u32 0, .int .u32 0, .int .u32 0, .int .u32 0, .int .u32 0, .int .u32 0, .int .u32 0, .int .u32 0, .int .u32 0, .int .u32 0, .int .u32 0, .int .u32 0, .int .u32 0, .int .u32 0, .int .u32 0, .int .u32 0, .int .u32 0, .int .u32 0, .int .u32 0, .int .u32 0, .int .u32 0, .int .u32 0, .int .u32 0, .int .u32 0, .int .u32 0, .int .u32 0, .int .u32 0, .int .u32 0, .int .u32 0, .int .u32 0, .int .u32 0, .int .u32 0, .int .u32 0, .int .u32 0, .int .u32 0, .int .u32 0, .int .u32 0] : Array Value)[j]? = some (.int .u32 0) := by
  intro j hj
  rw [show (#[.int .u32 0, .int .u32 0, .int .u32 0, .int .u32 0, .int .u32 0, .int .u32 0, .int .u32 0, .int .u32 0, .int .u32 0, .int .u32 0, .int .u32 0, .int .u32 0, .int .u32 0, .int .u32 0, .int .u32 0, .int .u32 0, .int .u32 0, .int .u32 0, .int .u32 0, .int .u32 0, .int .u32 0, .int .u32 0, .int .u32 0, .int .u32 0, .int .u32 0, .int .u32 0, .int .u32 0, .int .u32 0, .int .u32 0, .int .u32 0, .int .u32 0, .int .u32 0, .int .u32 0, .int .u32 0, .int .u32 0, .int .u32 0, .int .u32 0, .int .u32 0, .int .u32 0, .int .u32 0, .int .u32 0, .int .u32 0, .int .u32 0, .int .u32 0, .int .u32 0, .int .u32 0, .int .u32 0, .int .u32 0, .int .u32 0, .int .u32 0, .int .u32 0, .int .u32 0, .int .u32 0, .int .u32 0, .int .u32 0, .int .u32 0, .int .u32 0, .int .u32 0, .int .u32 0, .int .u32 0, .int .u32 0, .int .u32 0, .int .u32 0, .int .u32 0] : Array Value) = Array.replicate 64 (.int .u32 0) from rfl]
  rw [Array.getElem?_replicate, if_pos hj]
def pick8 (g0 g1 g2 g3 g4 g5 g6 g7 : Int) (k : Nat) : Int := [g0, g1, g2, g3, g4, g5, g6, g7].getD k 0
theorem idx42_0 (g0 g1 g2 g3 g4 g5 g6 g7 : Int) (w : World) : (Instr.index 42 (.agg #[.int .u32 g0, .int .u32 g1, .int .u32 g2, .int .u32 g3, .int .u32 g4, .int .u32 g5, .int .u32 g6, .int .u32 g7]) (.int .i64 ((0 : Nat) : Int))).run Tryd.prog w = .ok (.int .u32 (pick8 g0 g1 g2 g3 g4 g5 g6 g7 0)) w := by kernel_rfl
theorem idx42_1 (g0 g1 g2 g3 g4 g5 g6 g7 : Int) (w : World) : (Instr.index 42 (.agg #[.int .u32 g0, .int .u32 g1, .int .u32 g2, .int .u32 g3, .int .u32 g4, .int .u32 g5, .int .u32 g6, .int .u32 g7]) (.int .i64 ((1 : Nat) : Int))).run Tryd.prog w = .ok (.int .u32 (pick8 g0 g1 g2 g3 g4 g5 g6 g7 1)) w := by kernel_rfl
theorem idx42_2 (g0 g1 g2 g3 g4 g5 g6 g7 : Int) (w : World) : (Instr.index 42 (.agg #[.int .u32 g0, .int .u32 g1, .int .u32 g2, .int .u32 g3, .int .u32 g4, .int .u32 g5, .int .u32 g6, .int .u32 g7]) (.int .i64 ((2 : Nat) : Int))).run Tryd.prog w = .ok (.int .u32 (pick8 g0 g1 g2 g3 g4 g5 g6 g7 2)) w := by kernel_rfl
theorem idx42_3 (g0 g1 g2 g3 g4 g5 g6 g7 : Int) (w : World) : (Instr.index 42 (.agg #[.int .u32 g0, .int .u32 g1, .int .u32 g2, .int .u32 g3, .int .u32 g4, .int .u32 g5, .int .u32 g6, .int .u32 g7]) (.int .i64 ((3 : Nat) : Int))).run Tryd.prog w = .ok (.int .u32 (pick8 g0 g1 g2 g3 g4 g5 g6 g7 3)) w := by kernel_rfl
theorem idx42_4 (g0 g1 g2 g3 g4 g5 g6 g7 : Int) (w : World) : (Instr.index 42 (.agg #[.int .u32 g0, .int .u32 g1, .int .u32 g2, .int .u32 g3, .int .u32 g4, .int .u32 g5, .int .u32 g6, .int .u32 g7]) (.int .i64 ((4 : Nat) : Int))).run Tryd.prog w = .ok (.int .u32 (pick8 g0 g1 g2 g3 g4 g5 g6 g7 4)) w := by kernel_rfl
theorem idx42_5 (g0 g1 g2 g3 g4 g5 g6 g7 : Int) (w : World) : (Instr.index 42 (.agg #[.int .u32 g0, .int .u32 g1, .int .u32 g2, .int .u32 g3, .int .u32 g4, .int .u32 g5, .int .u32 g6, .int .u32 g7]) (.int .i64 ((5 : Nat) : Int))).run Tryd.prog w = .ok (.int .u32 (pick8 g0 g1 g2 g3 g4 g5 g6 g7 5)) w := by kernel_rfl
theorem idx42_6 (g0 g1 g2 g3 g4 g5 g6 g7 : Int) (w : World) : (Instr.index 42 (.agg #[.int .u32 g0, .int .u32 g1, .int .u32 g2, .int .u32 g3, .int .u32 g4, .int .u32 g5, .int .u32 g6, .int .u32 g7]) (.int .i64 ((6 : Nat) : Int))).run Tryd.prog w = .ok (.int .u32 (pick8 g0 g1 g2 g3 g4 g5 g6 g7 6)) w := by kernel_rfl
theorem idx42_7 (g0 g1 g2 g3 g4 g5 g6 g7 : Int) (w : World) : (Instr.index 42 (.agg #[.int .u32 g0, .int .u32 g1, .int .u32 g2, .int .u32 g3, .int .u32 g4, .int .u32 g5, .int .u32 g6, .int .u32 g7]) (.int .i64 ((7 : Nat) : Int))).run Tryd.prog w = .ok (.int .u32 (pick8 g0 g1 g2 g3 g4 g5 g6 g7 7)) w := by kernel_rfl
theorem idx42 (g0 g1 g2 g3 g4 g5 g6 g7 : Int) (k : Nat) (hk : k < 8) (w : World) :
    (Instr.index 42 (.agg #[.int .u32 g0, .int .u32 g1, .int .u32 g2, .int .u32 g3, .int .u32 g4, .int .u32 g5, .int .u32 g6, .int .u32 g7]) (.int .i64 (k : Int))).run Tryd.prog w = .ok (.int .u32 (pick8 g0 g1 g2 g3 g4 g5 g6 g7 k)) w := by
  have h : k = 0 ∨ k = 1 ∨ k = 2 ∨ k = 3 ∨ k = 4 ∨ k = 5 ∨ k = 6 ∨ k = 7 := by omega
  rcases h with rfl | rfl | rfl | rfl | rfl | rfl | rfl | rfl
  · exact idx42_0 g0 g1 g2 g3 g4 g5 g6 g7 w
  · exact idx42_1 g0 g1 g2 g3 g4 g5 g6 g7 w
  · exact idx42_2 g0 g1 g2 g3 g4 g5 g6 g7 w
  · exact idx42_3 g0 g1 g2 g3 g4 g5 g6 g7 w
  · exact idx42_4 g0 g1 g2 g3 g4 g5 g6 g7 w
  · exact idx42_5 g0 g1 g2 g3 g4 g5 g6 g7 w
  · exact idx42_6 g0 g1 g2 g3 g4 g5 g6 g7 w
  · exact idx42_7 g0 g1 g2 g3 g4 g5 g6 g7 w
theorem word_sum (a b c d : Int) : (a + b + c + d) % 4294967296 = ad (ad (ad a b) c) d := by unfold ad; omega

set_option maxHeartbeats 4000000 in
set_option maxRecDepth 100000 in
theorem piece18 (h p : Nat → Int) (b off len cap : Nat) (w : World) (hl : 64 ≤ len) (hb0 : b < w.heap.size) (hg0 : 0 < w.heap.size)
    (hp : ∀ j, j < 64 → w.cell? ⟨b, off + j, none⟩ = some (.int .u8 (p j))) (hp0 : ∀ j, 0 ≤ p j) (hp1 : ∀ j, p j ≤ 255)
    (hK : ∀ j, j < 64 → w.cell? ⟨0, j, none⟩ = some (.int .u32 (kon.getD j 0))) :
    Calls Tryd.prog 18 #[.agg #[.int .u32 (h 0), .int .u32 (h 1), .int .u32 (h 2), .int .u32 (h 3), .int .u32 (h 4), .int .u32 (h 5), .int .u32 (h 6), .int .u32 (h 7)], .slice (some ⟨b, off, none⟩) len cap] w
      fun e w' => e = .returned (.agg #[.int .u32 (pieceF h p 0), .int .u32 (pieceF h p 1), .int .u32 (pieceF h p 2), .int .u32 (pieceF h p 3), .int .u32 (pieceF h p 4), .int .u32 (pieceF h p 5), .int .u32 (pieceF h p 6), .int .u32 (pieceF h p 7)]) ∧ Below w.heap.size w w' := by
  have HP := Lib.hid hp; have HP0 := Lib.hid hp0; have HP1 := Lib.hid hp1; have HK := Lib.hid hK
  clear hp hp0 hp1 hK
  go_enter Tryd.func18, Tryd.ntmps18
  go_wp2
  go_loopw [27] (fun c wr => ∃ k : Nat, k ≤ 16 ∧ c = .int .i64 k ∧ Own18 w.heap.size w wr h (x1 p k)) (fun c _ => 16 - (intOf c).toNat)
  case atStart =>
    refine ⟨0, by omega, rfl, ?_⟩
    refine (Own18.start w h _ _ _ _ _ _ ?_ ?_ ?_).congr (fun _ _ => rfl) (fun j _ => (if_neg (by omega)).symm)
    · intro j hj
      match j, hj with
      | 0, _ => rfl
      | 1, _ => rfl
      | 2, _ => rfl
      | 3, _ => rfl
      | 4, _ => rfl
      | 5, _ => rfl
      | 6, _ => rfl
      | 7, _ => rfl
    · intro j hj
      match j, hj with
      | 0, _ => rfl
      | 1, _ => rfl
      | 2, _ => rfl
      | 3, _ => rfl
      | 4, _ => rfl
      | 5, _ => rfl
      | 6, _ => rfl
      | 7, _ => rfl
    · intro j hj
      exact zeros64 j hj
  case round =>
    obtain ⟨k, hk, rfl, HO⟩ := hrel
    by_cases hlt : k < 16
    · have c0 : wr.cell? ⟨b, off + 4 * k, none⟩ = some (.int .u8 (p (4 * k))) := (HO.below.cell hb0).trans (HP.out _ (by omega))
      have c1 : wr.cell? ⟨b, off + (4 * k + 1), none⟩ = some (.int .u8 (p (4 * k + 1))) := (HO.below.cell hb0).trans (HP.out _ (by omega))
      have c2 : wr.cell? ⟨b, off + (4 * k + 2), none⟩ = some (.int .u8 (p (4 * k + 2))) := (HO.below.cell hb0).trans (HP.out _ (by omega))
      have c3 : wr.cell? ⟨b, off + (4 * k + 3), none⟩ = some (.int .u8 (p (4 * k + 3))) := (HO.below.cell hb0).trans (HP.out _ (by omega))
      have ca := HO.arr k (by omega)
      have fa := HO.arrf k
      have p0 := u32_wrap_byte _ (HP0.out (4 * k)) (HP1.out (4 * k))
      have p1 := u32_wrap_byte _ (HP0.out (4 * k + 1)) (HP1.out (4 * k + 1))
      have p2 := u32_wrap_byte _ (HP0.out (4 * k + 2)) (HP1.out (4 * k + 2))
      have p3 := u32_wrap_byte _ (HP0.out (4 * k + 3)) (HP1.out (4 * k + 3))
      have m0 := idx4 k len hlt hl 0 (by omega); have m1 := idx4 k len hlt hl 1 (by omega)
      have m2 := idx4 k len hlt hl 2 (by omega); have m3 := idx4 k len hlt hl 3 (by omega)
      simp only [Int.add_zero, Nat.add_zero, Int.cast_ofNat_Int] at m0 m1 m2 m3
      have k64 : (k : Int) < 64 := by omega
      go_wp2
      refine wp_region_quiet_tail 35 (by kernel_rfl) (by kernel_rfl) ?_
      simp only [List.take_succ_cons, List.take_zero, List.drop_succ_cons, List.drop_zero]
      repeat (go_big_quiet_step (fail))
      refine wpQuiet_nil ?_
      intro _ hw'
      obtain ⟨nq, hw''⟩ := hw'
      subst hw''
      go_wp2
      refine ⟨⟨k + 1, by omega, by go_num, (HO.word (by omega) _ ?_).drewN nq⟩, by simp [intOf]; omega⟩
      rw [wd_lo p k hlt]; rfl
    · have hk16 : k = 16 := by omega
      subst hk16
      simp only [Int.cast_ofNat_Int]
      go_wp2
      go_loopw [7] (fun c wr => ∃ k : Nat, 16 ≤ k ∧ k ≤ 64 ∧ c = .int .i64 k ∧ Own18 w.heap.size w wr h (x1 p k)) (fun c _ => 64 - (intOf c).toNat)
      case atStart => exact ⟨16, by omega, by omega, rfl, HO⟩
      case round =>
        clear HO
        obtain ⟨k, hk, hk2, rfl, HO⟩ := hrel
        by_cases hlt : k < 64
        · have ca := HO.arr k (by omega)
          have fa := HO.arrf k
          have a2 := HO.arr (k - 2) (by omega); have a7 := HO.arr (k - 7) (by omega)
          have a15 := HO.arr (k - 15) (by omega); have a16 := HO.arr (k - 16) (by omega)
          have e2 : x1 p k (k - 2) = wd p (k - 2) := if_pos (by omega)
          have e7 : x1 p k (k - 7) = wd p (k - 7) := if_pos (by omega)
          have e15 : x1 p k (k - 15) = wd p (k - 15) := if_pos (by omega)
          have e16 : x1 p k (k - 16) = wd p (k - 16) := if_pos (by omega)
          rw [e2] at a2; rw [e7] at a7; rw [e15] at a15; rw [e16] at a16
          clear e2 e7 e15 e16
          have hw := wd_hi p k hk
          have m2 := idxm k 2 hlt hk (by omega); have m7 := idxm k 7 hlt hk (by omega)
          have m15 := idxm k 15 hlt hk (by omega); have m16 := idxm k 16 hlt hk (by omega)
          simp only [Int.cast_ofNat_Int] at m2 m7 m15 m16
          have HW := Lib.hid hw
          clear hw
          generalize wd p (k - 2) = v2 at *
          generalize wd p (k - 7) = v7 at *
          generalize wd p (k - 15) = v15 at *
          generalize wd p (k - 16) = v16 at *
          have k64 : (k : Int) < 64 := by omega
          have a7' := a7; have a16' := a16
          go_wp2
          go_quiet (fail)
          have HO2 := HO.drewN nq
          clear HO ca fa a2 a7 a15 a16
          have ca := HO2.arr k (by omega)
          have fa := HO2.arrf k
          have a7 : (wr.drewN nq).cell? ⟨w.heap.size + 1 + 1, k - 7, none⟩ = some (.int .u32 v7) := a7'
          have a16 : (wr.drewN nq).cell? ⟨w.heap.size + 1 + 1, k - 16, none⟩ = some (.int .u32 v16) := a16'
          clear a7' a16'
          generalize wr.drewN nq = wq at *
          go_wp2_with ((go_at_call 23; first | (with_reducible refine (rl2 _ _).mono ?_) | (with_reducible refine (rl6 _ _).mono ?_) | (with_reducible refine (rl7 _ _).mono ?_) | (with_reducible refine (rl11 _ _).mono ?_) | (with_reducible refine (rl13 _ _).mono ?_) | (with_reducible refine (rl17 _ _).mono ?_) | (with_reducible refine (rl18 _ _).mono ?_) | (with_reducible refine (rl19 _ _).mono ?_) | (with_reducible refine (rl22 _ _).mono ?_) | (with_reducible refine (rl25 _ _).mono ?_)); rintro e w' ⟨rfl, rfl⟩)
          refine wp_region_quiet_tail 15 (by kernel_rfl) (by kernel_rfl) ?_
          simp only [List.take_succ_cons, List.take_zero, List.drop_succ_cons, List.drop_zero]
          repeat (go_big_quiet_step (fail))
          refine wpQuiet_nil ?_
          intro _ hw'
          obtain ⟨nq, hw''⟩ := hw'
          subst hw''
          go_wp2
          refine ⟨⟨k + 1, by omega, by omega, by go_num, (HO2.word (by omega) _ ?_).drewN nq⟩, by simp [intOf]; omega⟩
          rw [HW.out]; exact word_sum _ _ _ _
        · have hk64 : k = 64 := by omega
          subst hk64
          simp only [Int.cast_ofNat_Int]
          have HO3 : Own18 w.heap.size w wr h (wd p) := HO.congr (fun _ _ => rfl) (fun j hj => if_pos hj)
          clear HO
          have b0 := HO3.box 0 (by omega); have b1 := HO3.box 1 (by omega); have b2 := HO3.box 2 (by omega); have b3 := HO3.box 3 (by omega)
          have b4 := HO3.box 4 (by omega); have b5 := HO3.box 5 (by omega); have b6 := HO3.box 6 (by omega); have b7 := HO3.box 7 (by omega)
          go_wp2
          go_quiet (fail)
          have HO4 := HO3.drewN nq
          clear HO3 b0 b1 b2 b3 b4 b5 b6 b7
          generalize wr.drewN nq = wq at *
          go_wp2
          go_loopw [125, 12, 13, 14, 15, 16, 17, 18, 19] (fun c v0 v1 v2 v3 v4 v5 v6 v7 wr => ∃ (k : Nat) (g0 g1 g2 g3 g4 g5 g6 g7 : Int), k ≤ 64 ∧ c = .int .i64 k ∧ v0 = .int .u32 g0 ∧ v1 = .int .u32 g1 ∧ v2 = .int .u32 g2 ∧ v3 = .int .u32 g3 ∧ v4 = .int .u32 g4 ∧ v5 = .int .u32 g5 ∧ v6 = .int .u32 g6 ∧ v7 = .int .u32 g7 ∧ Hid (rnds h (wd p) k = [g0, g1, g2, g3, g4, g5, g6, g7]) ∧ Own18 w.heap.size w wr h (wd p)) (fun c _ _ _ _ _ _ _ _ _ => 64 - (intOf c).toNat)
          case atStart => exact ⟨0, h 0, h 1, h 2, h 3, h 4, h 5, h 6, h 7, by omega, rfl, rfl, rfl, rfl, rfl, rfl, rfl, rfl, rfl, rfl, HO4⟩
          case round =>
            clear HO4
            obtain ⟨k, g0, g1, g2, g3, g4, g5, g6, g7, hk, rfl, rfl, rfl, rfl, rfl, rfl, rfl, rfl, rfl, HG, HO⟩ := hrel
            by_cases hlt : k < 64
            · have ca := HO.arr k hlt
              have ck := (HO.below.cell (p := ⟨0, k, none⟩) hg0).trans (HK.out k hlt)
              have k64 : (k : Int) < 64 := by omega
              generalize hwk : wd p k = wk at ca
              generalize hkk : kon.getD k 0 = kk at ck
              have HWK := Lib.hid hwk; have HKK := Lib.hid hkk
              clear hwk hkk
              go_wp2_with ((go_at_call 23; first | (with_reducible refine (rl2 _ _).mono ?_) | (with_reducible refine (rl6 _ _).mono ?_) | (with_reducible refine (rl7 _ _).mono ?_) | (with_reducible refine (rl11 _ _).mono ?_) | (with_reducible refine (rl13 _ _).mono ?_) | (with_reducible refine (rl17 _ _).mono ?_) | (with_reducible refine (rl18 _ _).mono ?_) | (with_reducible refine (rl19 _ _).mono ?_) | (with_reducible refine (rl22 _ _).mono ?_) | (with_reducible refine (rl25 _ _).mono ?_)); rintro e w' ⟨rfl, rfl⟩)
              go_quiet (fail)
              go_wp2_with ((go_at_call 23; first | (with_reducible refine (rl2 _ _).mono ?_) | (with_reducible refine (rl6 _ _).mono ?_) | (with_reducible refine (rl7 _ _).mono ?_) | (with_reducible refine (rl11 _ _).mono ?_) | (with_reducible refine (rl13 _ _).mono ?_) | (with_reducible refine (rl17 _ _).mono ?_) | (with_reducible refine (rl18 _ _).mono ?_) | (with_reducible refine (rl19 _ _).mono ?_) | (with_reducible refine (rl22 _ _).mono ?_) | (with_reducible refine (rl25 _ _).mono ?_)); rintro e w' ⟨rfl, rfl⟩)
              refine ⟨⟨k + 1, _, g0, g1, g2, _, g4, g5, g6, by omega, by go_num, rfl, rfl, rfl, rfl, rfl, rfl, rfl, rfl, ?_, HO.drewN nq⟩, by simp [intOf]; omega⟩
              exact rnds_step h (wd p) k g0 g1 g2 g3 g4 g5 g6 g7 kk wk HG.out HKK.out HWK.out
            · have hk64 : k = 64 := by omega
              subst hk64
              simp only [Int.cast_ofNat_Int]
              go_wp2
              go_loopw [199] (fun c wr => ∃ k : Nat, k ≤ 8 ∧ c = .int .i64 k ∧ Own18 w.heap.size w wr (hb h p k) (wd p)) (fun c _ => 8 - (intOf c).toNat)
              case atStart => exact ⟨0, by omega, rfl, HO.congr (fun j _ => (if_neg (by omega)).symm) (fun _ _ => rfl)⟩
              case round =>
                clear HO
                obtain ⟨k, hk, rfl, HO⟩ := hrel
                by_cases hlt : k < 8
                · have hix := fun w => idx42 g0 g1 g2 g3 g4 g5 g6 g7 k hlt w
                  have ca := HO.box k hlt
                  have fa := HO.boxf k
                  have e0 : hb h p k k = h k := if_neg (by omega)
                  rw [e0] at ca
                  clear e0
                  have k8 : (k : Int) < 8 := by omega
                  go_wp2
                  refine ⟨⟨k + 1, by omega, by go_num, HO.added hlt _ ?_⟩, by simp [intOf]; omega⟩
                  rw [pieceF_wd, HG.out]; rfl
                · have hk8 : k = 8 := by omega
                  subst hk8
                  have b0 := HO.box 0 (by omega); have b1 := HO.box 1 (by omega); have b2 := HO.box 2 (by omega); have b3 := HO.box 3 (by omega)
                  have b4 := HO.box 4 (by omega); have b5 := HO.box 5 (by omega); have b6 := HO.box 6 (by omega); have b7 := HO.box 7 (by omega)
                  have r0 := HO.res 0 (by omega); have r1 := HO.res 1 (by omega); have r2 := HO.res 2 (by omega); have r3 := HO.res 3 (by omega)
                  have r4 := HO.res 4 (by omega); have r5 := HO.res 5 (by omega); have r6 := HO.res 6 (by omega); have r7 := HO.res 7 (by omega)
                  have f0 := HO.resf 0; have f1 := HO.resf 1; have f2 := HO.resf 2; have f3 := HO.resf 3
                  have f4 := HO.resf 4; have f5 := HO.resf 5; have f6 := HO.resf 6; have f7 := HO.resf 7
                  simp only [hb] at b0 b1 b2 b3 b4 b5 b6 b7
                  simp only [Int.cast_ofNat_Int]
                  go_wp2
                  refine bodyPost_ret (v := .agg #[.int .u32 (pieceF h p 0), .int .u32 (pieceF h p 1), .int .u32 (pieceF h p 2), .int .u32 (pieceF h p 3), .int .u32 (pieceF h p 4), .int .u32 (pieceF h p 5), .int .u32 (pieceF h p 6), .int .u32 (pieceF h p 7)]) (by simp [results, Tryd.results18, go_sem, r0, r1, r2, r3, r4, r5, r6, r7]) rfl ⟨rfl, ?_⟩
                  exact ((((((((HO.below.setCell (by simp) _).setCell (by simp) _).setCell (by simp) _).setCell (by simp) _).setCell (by simp) _).setCell (by simp) _).setCell (by simp) _).setCell (by simp) _)
end Go.Proofs.YtgfkmbdipemgmaaDoor
