/- What the reference's piece hands back: the same eight words, in new memory. -/
import Derived.Test.YtgfkmbdipemgmaaDoorWords
import Derived.WalkKit
import Derived.WalkSpells
import Derived.Deep.QuietTactic
import Derived.BigQuiet
import Derived.Lib.Hide
namespace Go.Proofs.YtgfkmbdipemgmaaDoor
open Go Go.RowKit

/-- A round, in the form in which the reference's walk writes its sums. -/
theorem rnds_step' (h w : Nat → Int) (k : Nat) (g0 g1 g2 g3 g4 g5 g6 g7 kk wk : Int) (HG : rnds h w k = [g0, g1, g2, g3, g4, g5, g6, g7]) (hk : kon.getD k 0 = kk) (hw : w k = wk) :
    rnds h w (k + 1) = [(g7 + S1 g4 + ch g4 g5 g6 + kk + wk + (S0 g0 + maj g0 g1 g2)) % 4294967296, g0, g1, g2, (g3 + (g7 + S1 g4 + ch g4 g5 g6 + kk + wk)) % 4294967296, g4, g5, g6] := by
  rw [rnds_step h w k g0 g1 g2 g3 g4 g5 g6 g7 kk wk HG hk hw]
  generalize g7 + S1 g4 + ch g4 g5 g6 + kk + wk = a
  generalize S0 g0 + maj g0 g1 g2 = b
  rw [show (a % 4294967296 + b % 4294967296) % 4294967296 = (a + b) % 4294967296 by omega, show (g3 + a % 4294967296) % 4294967296 = (g3 + a) % 4294967296 by omega]

set_option maxHeartbeats 1000000 in
set_option maxRecDepth 100000 in
theorem ref15 (h p : Nat → Int) (hv : Value) (b off len cap : Nat) (w : World) (hl : 64 ≤ len) (hl2 : len ≤ 9223372036854775807) (hb0 : b < w.heap.size) (hh : RW w hv 8 h)
    (hp : ∀ j, j < 64 → w.cell? ⟨b, off + j, none⟩ = some (.int .u8 (p j))) (hp0 : ∀ j, 0 ≤ p j) (hp1 : ∀ j, p j ≤ 255) :
    Calls Tryd.prog 15 #[hv, .slice (some ⟨b, off, none⟩) len cap] w
      fun e w' => ∃ v, e = .returned v ∧ RW w' v 8 (pieceF h p) ∧ Below w.heap.size w w' := by
  obtain ⟨hg, hoff, hcap, rfl, hhg, hhc, hhm, hhv⟩ := hh
  have HP := Lib.hid hp; have HP0 := Lib.hid hp0; have HP1 := Lib.hid hp1; have HH := Lib.hid hhv
  obtain ⟨i36, hi, hz0, hz1, hz2⟩ := info_parts info36
  have HI := Lib.hid hi; have HZ0 := Lib.hid hz0; have HZ1 := Lib.hid hz1; have HZ2 := Lib.hid hz2
  clear hp hp0 hp1 hhv hi hz0 hz1 hz2
  go_enter Tryd.func15, Tryd.ntmps15
  go_wp2
  go_loopw [5, 6] (fun v c wr => ∃ k : Nat, k ≤ 64 ∧ c = .int .i64 k ∧ Sl wr w.heap.size v k (word (wd p)) ∧ Below w.heap.size w wr) (fun _ c _ => 64 - (intOf c).toNat)
  case atStart => exact ⟨0, by omega, rfl, Sl.empty _ _ _ _ _ (Nat.le_refl _) (by simp), (Below.refl _ _).alloc (Nat.le_refl _) _⟩
  case round =>
    obtain ⟨k, hk, rfl, hsl, hbl⟩ := hrel
    obtain ⟨ra, rcap, rfl⟩ := hsl.form
    have hsz := hbl.size
    by_cases hlt : k < 64
    · have k64 : (k : Int) < 64 := by omega
      by_cases h16 : k < 16
      · have k16 : (k : Int) < 16 := by omega
        have m4 : IntKind.i64.wrap (4 * (k : Int)) = ((4 * k : Nat) : Int) := by rw [IntWalk.i64_in _ (by omega)]; omega
        have hw20 := word20 b off len cap (4 * k) (p (4 * k)) (p (4 * k + 1)) (p (4 * k + 2)) (p (4 * k + 3)) wr (by omega) hl2
          ((hbl.cell hb0).trans (HP.out _ (by omega))) ((hbl.cell hb0).trans (HP.out _ (by omega))) ((hbl.cell hb0).trans (HP.out _ (by omega))) ((hbl.cell hb0).trans (HP.out _ (by omega)))
          (HP0.out _) (HP1.out _) (HP0.out _) (HP1.out _) (HP0.out _) (HP1.out _) (HP0.out _) (HP1.out _)
        have hv := wd_lo p k h16
        have HV := Lib.hid hv; have HW20 := Lib.hid hw20; have HSL := Lib.hid hsl; have HBL := Lib.hid hbl
        clear hv hw20 hsl hbl
        go_wp2_with fail
        refine HW20.out.mono ?_
        rintro e w2 ⟨rfl, n2, rfl⟩
        go_wp2_with (at_builtin; refine wpList_append_word (W := wr.drewN n2) (lo := w.heap.size) (m := k) (v := .slice ra k rcap) (e := wd p) (w1 := w) rfl _ _ rfl rfl rfl (HSL.out.drewN n2) ⟨HBL.out.os, HBL.out.tape, HBL.out.output, HBL.out.size, HBL.out.block⟩ HV.out.symm (by omega) hsz ?_; intro v5 w5 hs5 hb5 hg5 hz5; have HS5 := Lib.hid hs5; have HB5 := Lib.hid hb5; clear hs5 hb5 hz5 hg5)
        exact ⟨⟨k + 1, by omega, by go_num, HS5.out, HB5.out⟩, by simp [intOf]; omega⟩
      · have k16 : ¬ (k : Int) < 16 := by omega
        obtain ⟨g, off2, rfl, hg, hgl, hcell⟩ : ∃ g off2, ra = some ⟨g, off2, none⟩ ∧ w.heap.size ≤ g ∧ g < wr.heap.size ∧ ∀ j, j < k → wr.cell? ⟨g, off2 + j, none⟩ = some (.int .u32 (wd p j)) := by
          rcases hsl with ⟨h1, h2⟩ | ⟨g, off2, cap2, h1, h2, h3, _, _, _, _, h5⟩
          · omega
          · simp only [Value.slice.injEq] at h1
            obtain ⟨rfl, _, rfl⟩ := h1
            exact ⟨g, off2, rfl, h2, h3, h5⟩
        have a2 := hcell (k - 2) (by omega); have a7 := hcell (k - 7) (by omega)
        have a15 := hcell (k - 15) (by omega); have a16 := hcell (k - 16) (by omega)
        have hw := wd_hi p k (by omega)
        have m2 := idxm k 2 hlt (by omega) (by omega); have m7 := idxm k 7 hlt (by omega) (by omega)
        have m15 := idxm k 15 hlt (by omega) (by omega); have m16 := idxm k 16 hlt (by omega) (by omega)
        have n2 : (k : Int) - 2 < (k : Int) := by omega
        have n7 : (k : Int) - 7 < (k : Int) := by omega
        have n15 : (k : Int) - 15 < (k : Int) := by omega
        have n16 : (k : Int) - 16 < (k : Int) := by omega
        simp only [Int.cast_ofNat_Int] at m2 m7 m15 m16
        have HW := Lib.hid hw; have HSL := Lib.hid hsl; have HBL := Lib.hid hbl
        clear hw hsl hbl hcell
        generalize wd p (k - 2) = v2 at *
        generalize wd p (k - 7) = v7 at *
        generalize wd p (k - 15) = v15 at *
        generalize wd p (k - 16) = v16 at *
        go_wp2_with fail
        refine wp_region_steps [.inl [0], .inr [1, 2, 3, 4, 5, 6, 7, 8, 9, 10, 11, 12, 13, 14, 15, 16, 17, 18, 19, 20, 21, 22, 23, 24, 25, 26, 27, 28, 29]] [30, 31, 32] (by kernel_rfl) (by kernel_rfl) (fun _ _ _ d _ h => by cases d <;> exact h) ?_
        simp only [wpSteps, pick, List.getD_cons_zero, List.getD_cons_succ]
        repeat (go_big_quiet_step (fail))
        refine wpQuiet_nil ?_
        repeat (go_big_quiet_step (fail))
        go_big_quiet_step (exact Calls.quiet_of1 (rot17 _ _))
        repeat (go_big_quiet_step (fail))
        go_big_quiet_step (exact Calls.quiet_of1 (rot19 _ _))
        repeat (go_big_quiet_step (fail))
        go_big_quiet_step (exact Calls.quiet_of1 (rot7 _ _))
        repeat (go_big_quiet_step (fail))
        go_big_quiet_step (exact Calls.quiet_of1 (rot18 _ _))
        repeat (go_big_quiet_step (fail))
        refine wpQuiet_nil ?_
        intro wq hwq
        obtain ⟨nq, rfl⟩ := hwq
        go_wp2_with (at_builtin; refine wpList_append_word (W := wr.drewN (1 + nq)) (lo := w.heap.size) (m := k) (v := .slice (some ⟨g, off2, none⟩) k rcap) (e := wd p) (w1 := w) rfl _ _ rfl rfl rfl (HSL.out.drewN _) ⟨HBL.out.os, HBL.out.tape, HBL.out.output, HBL.out.size, HBL.out.block⟩ (by rw [HW.out]; exact word_sum' _ _ _ _) (by omega) hsz ?_; intro v5 w5 hs5 hb5 hg5 hz5; have HS5 := Lib.hid hs5; have HB5 := Lib.hid hb5; clear hs5 hb5 hz5 hg5)
        exact ⟨⟨k + 1, by omega, by go_num, HS5.out, HB5.out⟩, by simp [intOf]; omega⟩
    · have hk64 : k = 64 := by omega
      subst hk64
      simp only [Int.cast_ofNat_Int]
      have hW : RW wr (.slice ra 64 rcap) 64 (wd p) := hsl.rw (by omega)
      have hHv : RW wr (.slice (some ⟨hg, hoff, none⟩) 8 hcap) 8 h := by
        refine RW.below (w := w) ⟨hg, hoff, hcap, rfl, hhg, hhc, hhm, HH.out⟩ hbl
      have hHsrc : ∀ o, Src Tryd.prog 1 37 (.slice (some ⟨hg, hoff, none⟩) 8 hcap) 8 (cellsOf 8 (word h)) (wr.alloc o) := fun o =>
        src_slice Tryd.underlying37 hg hoff 8 hcap (word h) (fun j hj => by
          rw [World.cell?_of_block (w := wr) (a := ⟨hg, hoff + j, none⟩) (Below.heap_alloc wr o hg (by omega)), hbl.cell (p := ⟨hg, hoff + j, none⟩) hhg]
          exact HH.out j hj) (fun _ _ => rfl)
      have HSRC := Lib.hid hHsrc; have HW := Lib.hid hW; have HHV := Lib.hid hHv; have HBL := Lib.hid hbl
      clear hHsrc hW hHv hbl hsl
      go_wp2_with (at_builtin; refine wpList_append_sl (lo := wr.heap.size) (m := 0) (n := 8) (r := word h) (q := word h) (v := .slice (some ⟨wr.heap.size, 0, none⟩) 0 0) (x := .slice (some ⟨hg, hoff, none⟩) 8 hcap) rfl _ _ 37 37 rfl 36 i36 (.int .u32 0) 4 Tryd.underlying37 HI.out HZ0.out rfl HZ1.out HZ2.out rfl rfl (Sl.empty _ _ _ _ _ (Nat.le_refl _) (by simp)) (HSRC.out _) (fun j _ => rfl) (by simp) (by omega) (by omega) ?_; intro v9 w9 hs9 hg9 _; have HS9 := Lib.hid hs9; have HG9 := Lib.hid hg9; clear hs9 hg9)
      have hb9 : Below wr.heap.size wr w9 := ((Below.refl wr.heap.size wr).alloc (Nat.le_refl _) _).grown HG9.out (by simp) (fun k hk => by
        have : wr.heap.size = k := by simpa [Value.ownBlock] using hk
        omega)
      have hV9 : RW w9 v9 8 h := by
        have := (HS9.out.congr (q := word h) (fun j _ => by unfold joined; rw [if_neg (by omega), Nat.sub_zero])).rw (by omega)
        exact this
      have hW9 := HW.out.below hb9
      have hH9 := HHV.out.below hb9
      have hbl9 : Below w.heap.size w w9 := HBL.out.trans (hb9.mono hsz)
      have HW9 := Lib.hid hW9; have HH9 := Lib.hid hH9; have HB9 := Lib.hid hbl9
      clear hW9 hH9 hbl9 hb9 HW HHV HBL HSRC HS9 HG9
      clear HI HZ0 HZ1 HZ2
      go_loopw [9, 10] (fun v c wr2 => ∃ (k : Nat) (g0 g1 g2 g3 g4 g5 g6 g7 : Int), k ≤ 64 ∧ c = .int .i64 k ∧ Hid (rnds h (wd p) k = [g0, g1, g2, g3, g4, g5, g6, g7]) ∧ RW wr2 v 8 (fun j => [g0, g1, g2, g3, g4, g5, g6, g7].getD j 0) ∧ Below w9.heap.size w9 wr2) (fun _ c _ => 64 - (intOf c).toNat)
      case atStart =>
        refine ⟨0, h 0, h 1, h 2, h 3, h 4, h 5, h 6, h 7, by omega, rfl, rfl, ?_, Below.refl _ _⟩
        obtain ⟨g, o, c, e1, e2, e3, e4, e5⟩ := hV9
        refine ⟨g, o, c, e1, e2, e3, e4, fun j hj => ?_⟩
        rw [e5 j hj]
        match j, hj with
        | 0, _ => rfl
        | 1, _ => rfl
        | 2, _ => rfl
        | 3, _ => rfl
        | 4, _ => rfl
        | 5, _ => rfl
        | 6, _ => rfl
        | 7, _ => rfl
      case round =>
        clear hV9
        obtain ⟨k, g0, g1, g2, g3, g4, g5, g6, g7, hk, rfl, HG, hV, hb2⟩ := hrel
        by_cases hlt : k < 64
        · have k64 : (k : Int) < 64 := by omega
          have hW2 := HW9.out.below hb2
          have HW2 := Lib.hid hW2
          obtain ⟨g, off3, cap3, rfl, hgl, hgc, hgm, hcell⟩ := hV
          obtain ⟨gw, offw, capw, hraw, hwl, hwc, hwm, hwcell⟩ := hW2
          simp only [Value.slice.injEq] at hraw
          obtain ⟨rfl, _, rfl⟩ := hraw
          have c0 : wr.cell? ⟨g, off3, none⟩ = some (.int .u32 g0) := hcell 0 (by omega)
          have c4 : wr.cell? ⟨g, off3 + 4, none⟩ = some (.int .u32 g4) := hcell 4 (by omega)
          have x5 : ∀ e : Ext wr, e.val.cell? ⟨g, off3 + 5, none⟩ = some (.int .u32 g5) := fun e => (e.cell _ _ hgl).trans (hcell 5 (by omega))
          have x6 : ∀ e : Ext wr, e.val.cell? ⟨g, off3 + 6, none⟩ = some (.int .u32 g6) := fun e => (e.cell _ _ hgl).trans (hcell 6 (by omega))
          have x7 : ∀ e : Ext wr, e.val.cell? ⟨g, off3 + 7, none⟩ = some (.int .u32 g7) := fun e => (e.cell _ _ hgl).trans (hcell 7 (by omega))
          have xw : ∀ e : Ext wr, e.val.cell? ⟨gw, offw + k, none⟩ = some (.int .u32 (wd p k)) := fun e => (e.cell _ _ hwl).trans (hwcell k hlt)
          generalize hwk : wd p k = wk at xw
          generalize hkk : kon.getD k 0 = kk
          have HWK := Lib.hid hwk; have HKK := Lib.hid hkk; have HCELL := Lib.hid hcell; have HB2 := Lib.hid hb2
          have hcon : ∀ w0, Calls Tryd.prog 22 #[.int .i64 (k : Int)] w0 fun e w' => e = .returned (.int .u32 kk) ∧ Below w0.heap.size w0 w' := fun w0 => by rw [← hkk]; exact constant22 k w0 hlt
          have HCON := Lib.hid hcon
          clear hwk hkk hcell hb2 hwcell hcon
          go_wp2_with fail
          refine wp_region_ext (by kernel_rfl) (by kernel_rfl) ?_
          repeat (go_big_quiet_step (fail))
          go_big_quiet_step (exact Calls.ext_of_draw (rot6 _ _))
          repeat (go_big_quiet_step (fail))
          go_big_quiet_step (exact Calls.ext_of_draw (rot11 _ _))
          repeat (go_big_quiet_step (fail))
          go_big_quiet_step (exact Calls.ext_of_draw (rot25 _ _))
          repeat (go_big_quiet_step (fail))
          go_big_quiet_step (exact Calls.ext_of_below (HCON.out _))
          repeat (go_big_quiet_step (fail))
          refine wpQuiet_nil ?_
          intro wq hwq
          obtain ⟨e16, rfl⟩ := hwq
          obtain ⟨X, hX⟩ : ∃ X : Int, X = (if IntKind.u32.signed = true then -1 else IntKind.u32.max) := ⟨_, rfl⟩
          rw [← hX]
          have hb16 := e16.below
          have HB16 := Lib.hid hb16
          have d1 : e16.val.cell? ⟨g, off3 + 1, none⟩ = some (.int .u32 g1) := (e16.cell _ _ hgl).trans (HCELL.out 1 (by omega))
          have d2 : e16.val.cell? ⟨g, off3 + 2, none⟩ = some (.int .u32 g2) := (e16.cell _ _ hgl).trans (HCELL.out 2 (by omega))
          have d3 : e16.val.cell? ⟨g, off3 + 3, none⟩ = some (.int .u32 g3) := (e16.cell _ _ hgl).trans (HCELL.out 3 (by omega))
          have d5 := x5 e16
          have d6 := x6 e16
          clear hb16 x5 x6 x7 xw c0 c4 hgl hwl
          generalize e16.val = w16 at *
          clear e16
          go_wp2_with fail
          refine wp_region_quiet_lit (by kernel_rfl) (by kernel_rfl) ?_
          repeat (go_big_quiet_step (fail))
          go_big_quiet_step (exact Calls.quiet_of (rot2 _ _))
          repeat (go_big_quiet_step (fail))
          go_big_quiet_step (exact Calls.quiet_of (rot13 _ _))
          repeat (go_big_quiet_step (fail))
          go_big_quiet_step (exact Calls.quiet_of (rot22 _ _))
          repeat (go_big_quiet_step (fail))
          refine wpQuiet_nil ?_
          intro wq hwq
          obtain ⟨nq, rfl⟩ := hwq
          have d1' : (w16.drewN nq).cell? ⟨g, off3 + 1, none⟩ = some (.int .u32 g1) := d1
          have d2' : (w16.drewN nq).cell? ⟨g, off3 + 2, none⟩ = some (.int .u32 g2) := d2
          have d3' : (w16.drewN nq).cell? ⟨g, off3 + 3, none⟩ = some (.int .u32 g3) := d3
          have d5' : (w16.drewN nq).cell? ⟨g, off3 + 5, none⟩ = some (.int .u32 g5) := d5
          have d6' : (w16.drewN nq).cell? ⟨g, off3 + 6, none⟩ = some (.int .u32 g6) := d6
          have hb17 : Below w9.heap.size w9 (w16.drewN nq) := below_drewN (HB2.out.trans (HB16.out.mono HB2.out.size)) nq
          have HB17 := Lib.hid hb17
          clear d1 d2 d3 d5 d6 hb17 HB16
          generalize w16.drewN nq = w17 at *
          go_wp2_with fail
          refine wp_region_steps [.inl [0, 1, 2, 3, 13, 15], .inr [4, 5, 6, 7, 8, 9, 10, 11, 12, 14, 16, 17, 18, 19, 20, 21]] [22, 23] (by kernel_rfl) (by kernel_rfl) (fun _ _ _ d _ h => by cases d <;> exact h) ?_
          simp only [wpSteps, pick, List.getD_cons_zero, List.getD_cons_succ]
          repeat (go_big_quiet_step (fail))
          refine wpQuiet_nil ?_
          repeat (go_big_quiet_step (fail))
          refine wpQuiet_nil ?_
          intro wq hwq
          obtain ⟨nq2, rfl⟩ := hwq
          go_wp2
          subst hX
          refine ⟨⟨k + 1, _, _, _, _, _, _, _, _, by omega, by go_num, Lib.hid (rnds_step' h (wd p) k g0 g1 g2 g3 g4 g5 g6 g7 kk wk HG.out HKK.out HWK.out), ?_, ?_⟩, by simp [intOf]; omega⟩
          · refine ⟨_, 0, 8, rfl, by simp, by omega, by unfold maxLen; omega, fun j hj => ?_⟩
            rw [Nat.zero_add]
            refine (cell_of_row _ _ _ _ _ _ (heap_alloc_new (w17.drewN (1 + nq2)) _)).trans ?_
            match j, hj with
            | 0, _ => rfl
            | 1, _ => rfl
            | 2, _ => rfl
            | 3, _ => rfl
            | 4, _ => rfl
            | 5, _ => rfl
            | 6, _ => rfl
            | 7, _ => rfl
          · exact (below_drewN HB17.out (1 + nq2)).alloc HB17.out.size _
        · have hk64 : k = 64 := by omega
          subst hk64
          simp only [Int.cast_ofNat_Int]
          have hH2 := HH9.out.below hb2
          have hbl := HB9.out.trans (hb2.mono (by have := HB9.out.size; omega))
          have hR : ∀ j, pieceF h p j = (h j + [g0, g1, g2, g3, g4, g5, g6, g7].getD j 0) % 4294967296 := fun j => by rw [pieceF_wd, HG.out]; rfl
          have HV2 := Lib.hid hV; have HH2 := Lib.hid hH2; have HBL := Lib.hid hbl; have HR := Lib.hid hR
          clear hV hH2 hbl hR hb2 HW9 HH9 HB9 HG
          have hsz2 := HBL.out.size
          generalize wr = w10 at *
          go_wp2
          go_loopw [15, 16] (fun v c wr2 => ∃ k : Nat, k ≤ 8 ∧ c = .int .i64 k ∧ Sl wr2 w10.heap.size v k (word (pieceF h p)) ∧ Below w10.heap.size w10 wr2) (fun _ c _ => 8 - (intOf c).toNat)
          case atStart => exact ⟨0, by omega, rfl, Sl.empty _ _ _ _ _ (Nat.le_refl _) (by simp), (Below.refl _ _).alloc (Nat.le_refl _) _⟩
          case round =>
            obtain ⟨k, hk, rfl, hsl, hb3⟩ := hrel
            obtain ⟨ra3, rcap3, rfl⟩ := hsl.form
            have hsz3 := hb3.size
            by_cases hlt : k < 8
            · have k8 : (k : Int) < 8 := by omega
              have hV3 := HV2.out.below hb3
              have hH3 := HH2.out.below hb3
              obtain ⟨g, off3, cap3, rfl, hgl, hgc, hgm, hcell⟩ := hV3
              obtain ⟨gh, offh, caph, hrh, hhl, hhc3, hhm3, hhcell⟩ := hH3
              simp only [Value.slice.injEq, Option.some.injEq, Addr.mk.injEq] at hrh
              obtain ⟨⟨rfl, rfl, _⟩, _, rfl⟩ := hrh
              have cv : wr.cell? ⟨g, off3 + k, none⟩ = some (.int .u32 ([g0, g1, g2, g3, g4, g5, g6, g7].getD k 0)) := hcell k hlt
              have chh : wr.cell? ⟨hg, hoff + k, none⟩ = some (.int .u32 (h k)) := hhcell k hlt
              have hr := HR.out k
              generalize [g0, g1, g2, g3, g4, g5, g6, g7].getD k 0 = gk at cv hr
              generalize h k = hk3 at chh hr
              have HRK := Lib.hid hr; have HSL := Lib.hid hsl; have HB3 := Lib.hid hb3
              clear hr hsl hb3 hcell hhcell
              go_wp2_with fail
              refine wp_region_steps [.inl [0], .inr [1, 2, 3, 4, 5, 6, 7, 8, 9]] [10, 11, 12] (by kernel_rfl) (by kernel_rfl) (fun _ _ _ d _ h => by cases d <;> exact h) ?_
              simp only [wpSteps, pick, List.getD_cons_zero, List.getD_cons_succ]
              repeat (go_big_quiet_step (fail))
              refine wpQuiet_nil ?_
              repeat (go_big_quiet_step (fail))
              refine wpQuiet_nil ?_
              intro wq hwq
              obtain ⟨nq, rfl⟩ := hwq
              go_wp2_with (at_builtin; refine wpList_append_word (W := wr.drewN (1 + nq)) (lo := w10.heap.size) (m := k) (v := .slice ra3 k rcap3) (e := pieceF h p) (w1 := w10) rfl _ _ rfl rfl rfl (HSL.out.drewN _) (below_drewN HB3.out _) HRK.out.symm (by omega) hsz3 ?_; intro v5 w5 hs5 hb5 hg5 hz5; have HS5 := Lib.hid hs5; have HB5 := Lib.hid hb5; clear hs5 hb5 hz5 hg5)
              exact ⟨⟨k + 1, by omega, by go_num, HS5.out, HB5.out⟩, by simp [intOf]; omega⟩
            · have hk8 : k = 8 := by omega
              subst hk8
              simp only [Int.cast_ofNat_Int]
              have hres : RW wr (.slice ra3 8 rcap3) 8 (pieceF h p) := hsl.rw (by omega)
              have hfin : Below w.heap.size w wr := HBL.out.trans (hb3.mono hsz2)
              have HRES := Lib.hid hres; have HFIN := Lib.hid hfin
              clear hres hfin hsl hb3
              go_wp2
              go_ret
              exact ⟨_, rfl, HRES.out, HFIN.out⟩
end Go.Proofs.YtgfkmbdipemgmaaDoor
