/- What the reference's Sum hands back: the same value; nothing that was there has changed. -/
import Derived.Test.YtgfkmbdipemgmaaDoorRef
import Derived.Test.YtgfkmbdipemgmaaDoorWhole
import Derived.Test.YtgfkmbdipemgmaaDoorMac
namespace Go.Proofs.YtgfkmbdipemgmaaDoor
open Go Go.RowKit

theorem Rx.src {w : World} {x : Value} {len : Nat} {f : Nat → Int} (h : Rx w x len f) : Src Tryd.prog 1 22 x len (cellsOf len (byte f)) w := by
  rcases h with ⟨rfl, rfl⟩ | ⟨b, off, cap, rfl, _, hc⟩
  · exact Src.ofNil w Tryd.underlying22 0
  · exact src_slice Tryd.underlying22 b off len cap (byte f) hc (fun j _ => byte_one f j)

theorem run_build25 (ρ : Operand → Value) (w : World) (d : Option Tmp) (t : TypeId) (p : String) (af : Array Edge) (g : Option (Nat × Bool)) :
    (execOp ρ { dst := d, op := .build 25 #[], type := t, pos := p, after := af, guard := g }).run Tryd.prog w = .ok (.value (.agg (bytesV 32 (fun _ => 0)))) w := by kernel_rfl

/-- The literal of 32 noughts, without a look at them. -/
theorem wpList_build25 {ops : Array Oper} {rest : List Oper} {o : Oper} {a : Act} {w : World} {Q : Exit → Act → World → Prop} (hgd : o.guard = none) (ho : o.op = .build 25 #[])
    (h : wpList Tryd.prog ops Q rest (a.put o.dst (.agg (bytesV 32 (fun _ => 0)))) w) : wpList Tryd.prog ops Q (o :: rest) a w :=
  wpList_plain hgd fun K hK => by
    obtain ⟨d, op, t, p, af, g⟩ := o
    simp only at ho
    subst ho
    unfold Oper.wp
    rw [run_build25]
    exact hK _ _ h

theorem o1_put {w : World} {O i : Nat} {H : Nat → Int} (h : w.heap[O]? = some (.cells (bytesV 32 (o1 H i)) 25 (0, 0))) (v : Int) (hv : v = outF H i) :
    (w.setCell ⟨O, i, none⟩ (.int .u8 v)).heap[O]? = some (.cells (bytesV 32 (o1 H (i + 1))) 25 (0, 0)) := by
  rw [heap_setCell_same w _ _ _ _ _ h, bytesV_set]
  rw [bytesV_congr (g := o1 H (i + 1)) (fun j _ => ?_)]
  show (if j = i then v else o1 H i j) = o1 H (i + 1) j
  unfold o1
  by_cases e : j = i
  · subst e; rw [if_pos rfl, if_pos (by omega), hv]
  · rw [if_neg e]
    by_cases l : j < i
    · rw [if_pos l, if_pos (by omega)]
    · rw [if_neg l, if_neg (by omega)]

/-- The eight words at the start, as they have just been laid. -/
theorem start_rw (w : World) : RW (w.alloc (.cells (hCells h0F) 36)) (.slice (some ⟨w.heap.size, 0, none⟩) 8 8) 8 h0F :=
  ⟨_, 0, 8, rfl, by simp, Nat.le_refl _, by unfold maxLen; omega, fun j hj => by
    rw [Nat.zero_add, cell_of_row _ _ _ _ _ _ (heap_alloc_new w _)]
    match j, hj with
    | 0, _ => rfl
    | 1, _ => rfl
    | 2, _ => rfl
    | 3, _ => rfl
    | 4, _ => rfl
    | 5, _ => rfl
    | 6, _ => rfl
    | 7, _ => rfl⟩

set_option maxHeartbeats 1000000 in
set_option maxRecDepth 100000 in
theorem refSum9 (x : Value) (len : Nat) (f : Nat → Int) (w : World) (hx : Rx w x len f) (hlen : len ≤ 140737488351328) (hf0 : ∀ j, 0 ≤ f j) (hf1 : ∀ j, f j ≤ 255) :
    Calls Tryd.prog 9 #[x] w fun e w' => e = .returned (.agg (bytesV 32 (sumF f len))) ∧ Below w.heap.size w w' := by
  obtain ⟨xa, xcap, rfl⟩ := hx.form
  obtain ⟨i5, hi5, hz0, hz1, hz2⟩ := info_parts info5
  have hsrc : ∀ o o', Src Tryd.prog 1 22 (.slice xa len xcap) len (cellsOf len (byte f)) ((w.alloc o).alloc o') := fun o o' =>
    (hx.below (((Below.refl _ _).alloc (Nat.le_refl _) o).alloc (by simp) o')).src
  have HX := Lib.hid hx; have HF0 := Lib.hid hf0; have HF1 := Lib.hid hf1; have HSRC := Lib.hid hsrc
  have HI5 := Lib.hid hi5; have HZ0 := Lib.hid hz0; have HZ1 := Lib.hid hz1; have HZ2 := Lib.hid hz2
  clear hx hf0 hf1 hsrc hi5 hz0 hz1 hz2
  have hi : ∀ f, (Tryd.prog.info? 25).map (·.size) = some (bytesV 32 f).size := fun f => by rw [bytesV_size]; exact info25
  have HI := Lib.hid hi
  clear hi
  go_enter Tryd.func9, Tryd.ntmps9
  go_wp2_with (first | (at_builtin; refine wpList_append_sl (lo := w.heap.size + 1) (m := 0) (n := len) (r := byte (padF f len (len : Int))) (q := byte f) (v := .slice (some ⟨w.heap.size + 1, 0, none⟩) 0 0) (x := .slice xa len xcap) rfl _ _ 22 22 rfl 5 i5 (.int .u8 0) 1 Tryd.underlying22 HI5.out HZ0.out rfl HZ1.out HZ2.out rfl rfl (Sl.empty _ _ _ _ _ (Nat.le_refl _) (by simp)) (HSRC.out _ _) (fun j _ => byte_one _ j) (by simp) (by omega) (by omega) ?_; intro v1 w3 hs3 hg3 _; have hs3' := first_append _ hs3 hg3 (fun j hj => (padF_lo hj).symm); have HS3 := Lib.hid hs3'; clear hs3 hs3' hg3) | (at_builtin; refine wpList_append_byte (lo := w.heap.size + 1) (m := len) (v := v1) (e := padF f len (len : Int)) rfl _ _ rfl rfl rfl HS3.out.1 HS3.out.2 padF_mid.symm (by omega) (by have := HS3.out.2.size; simp at this; omega) ?_; intro v4 w4 hs4 hb4 hz4; have HS4 := Lib.hid hs4; have HB4 := Lib.hid hb4; obtain ⟨a4, cap4, rfl⟩ := hs4.form; clear hs4 hb4 hz4))
  have hz4 : w.heap.size + 1 ≤ w4.heap.size := by have := HB4.out.size; simp at this; omega
  go_loopg [3] (zer len) (fun k v wr => ∃ L, L + k = len + 1 + zer len ∧ len + 1 ≤ L ∧ Sl wr (w.heap.size + 1) v L (byte (padF f len (len : Int))) ∧ Below (w.heap.size + 1) (w.alloc (.cells (bytesV 32 (fun _ => 0)) 25)) wr)
  case atStart => exact ⟨len + 1, by omega, by omega, HS4.out, HB4.out⟩
  case round =>
    obtain ⟨L, hL, hL1, hsl, hbl⟩ := hrel
    obtain ⟨ra, rcap, rfl⟩ := hsl.form
    have hzm : (len + 1 + zer len) % 64 = 56 := by unfold zer; omega
    have hz63 : zer len < 64 := by unfold zer; omega
    have hsz : w.heap.size + 1 ≤ wr.heap.size := by have := hbl.size; simp at this; omega
    have HSL := Lib.hid hsl; have HBL := Lib.hid hbl
    clear hsl hbl
    by_cases hk0 : gk = 0
    · have ht : (((L : Nat) : Int) % 64 != 56) = false := by simp; omega
      have eL : L = len + 1 + zer len := by omega
      have EL := Lib.hid eL
      clear eL hL
      have u8l : IntKind.u64.wrap (len : Int) = (len : Int) := IntWalk.u64_in _ (by omega)
      have u8m : IntKind.u64.wrap (8 * (len : Int)) = 8 * (len : Int) := IntWalk.u64_in _ (by omega)
      go_wp2
      go_loopw [3, 5] (fun v c wr => ∃ i L, i ≤ 8 ∧ c = .int .i64 (7 - ((i : Nat) : Int)) ∧ L = len + 1 + zer len + i ∧ Sl wr (w.heap.size + 1) v L (byte (padF f len (len : Int))) ∧ Below (w.heap.size + 1) (w.alloc (.cells (bytesV 32 (fun _ => 0)) 25)) wr) (fun _ c _ => (intOf c + 1).toNat)
      case atStart => exact ⟨0, L, by omega, rfl, EL.out, HSL.out, HBL.out⟩
      case round =>
        clear HSL HBL hsz
        obtain ⟨i, L2, hi, rfl, hL2, hsl, hbl⟩ := hrel
        obtain ⟨rb, rbcap, rfl⟩ := hsl.form
        have hsz : w.heap.size + 1 ≤ wr.heap.size := by have := hbl.size; simp at this; omega
        have HSL := Lib.hid hsl; have HBL := Lib.hid hbl
        clear hsl hbl
        by_cases hi8 : i < 8
        · have hv := padF_bits (c := f) (m := len) (n := (len : Int)) i
          rw [← hL2] at hv
          have HV := Lib.hid hv
          clear hv
          have HL2 := Lib.hid hL2
          clear hL2
          have ei : i = 0 ∨ i = 1 ∨ i = 2 ∨ i = 3 ∨ i = 4 ∨ i = 5 ∨ i = 6 ∨ i = 7 := by omega
          rcases ei with rfl | rfl | rfl | rfl | rfl | rfl | rfl | rfl
          · simp only [Int.cast_ofNat_Int]
            go_wp2_with (at_builtin; refine wpList_append_byte (lo := w.heap.size + 1) (m := L2) (v := .slice rb L2 rbcap) (e := padF f len (len : Int)) rfl _ _ rfl rfl rfl HSL.out HBL.out (HV.out.trans (by simp; try omega)).symm (by have := HL2.out; omega) (by omega) ?_; intro v5 w5 hs5 hb5 hz5; have HS5 := Lib.hid hs5; have HB5 := Lib.hid hb5; clear hs5 hb5 hz5)
            exact ⟨⟨1, L2 + 1, by omega, rfl, by rw [HL2.out], HS5.out, HB5.out⟩, by simp [intOf]⟩
          · simp only [Int.cast_ofNat_Int]
            go_wp2_with (at_builtin; refine wpList_append_byte (lo := w.heap.size + 1) (m := L2) (v := .slice rb L2 rbcap) (e := padF f len (len : Int)) rfl _ _ rfl rfl rfl HSL.out HBL.out (HV.out.trans (by simp; try omega)).symm (by have := HL2.out; omega) (by omega) ?_; intro v5 w5 hs5 hb5 hz5; have HS5 := Lib.hid hs5; have HB5 := Lib.hid hb5; clear hs5 hb5 hz5)
            exact ⟨⟨2, L2 + 1, by omega, rfl, by rw [HL2.out], HS5.out, HB5.out⟩, by simp [intOf]⟩
          · simp only [Int.cast_ofNat_Int]
            go_wp2_with (at_builtin; refine wpList_append_byte (lo := w.heap.size + 1) (m := L2) (v := .slice rb L2 rbcap) (e := padF f len (len : Int)) rfl _ _ rfl rfl rfl HSL.out HBL.out (HV.out.trans (by simp; try omega)).symm (by have := HL2.out; omega) (by omega) ?_; intro v5 w5 hs5 hb5 hz5; have HS5 := Lib.hid hs5; have HB5 := Lib.hid hb5; clear hs5 hb5 hz5)
            exact ⟨⟨3, L2 + 1, by omega, rfl, by rw [HL2.out], HS5.out, HB5.out⟩, by simp [intOf]⟩
          · simp only [Int.cast_ofNat_Int]
            go_wp2_with (at_builtin; refine wpList_append_byte (lo := w.heap.size + 1) (m := L2) (v := .slice rb L2 rbcap) (e := padF f len (len : Int)) rfl _ _ rfl rfl rfl HSL.out HBL.out (HV.out.trans (by simp; try omega)).symm (by have := HL2.out; omega) (by omega) ?_; intro v5 w5 hs5 hb5 hz5; have HS5 := Lib.hid hs5; have HB5 := Lib.hid hb5; clear hs5 hb5 hz5)
            exact ⟨⟨4, L2 + 1, by omega, rfl, by rw [HL2.out], HS5.out, HB5.out⟩, by simp [intOf]⟩
          · simp only [Int.cast_ofNat_Int]
            go_wp2_with (at_builtin; refine wpList_append_byte (lo := w.heap.size + 1) (m := L2) (v := .slice rb L2 rbcap) (e := padF f len (len : Int)) rfl _ _ rfl rfl rfl HSL.out HBL.out (HV.out.trans (by simp; try omega)).symm (by have := HL2.out; omega) (by omega) ?_; intro v5 w5 hs5 hb5 hz5; have HS5 := Lib.hid hs5; have HB5 := Lib.hid hb5; clear hs5 hb5 hz5)
            exact ⟨⟨5, L2 + 1, by omega, rfl, by rw [HL2.out], HS5.out, HB5.out⟩, by simp [intOf]⟩
          · simp only [Int.cast_ofNat_Int]
            go_wp2_with (at_builtin; refine wpList_append_byte (lo := w.heap.size + 1) (m := L2) (v := .slice rb L2 rbcap) (e := padF f len (len : Int)) rfl _ _ rfl rfl rfl HSL.out HBL.out (HV.out.trans (by simp; try omega)).symm (by have := HL2.out; omega) (by omega) ?_; intro v5 w5 hs5 hb5 hz5; have HS5 := Lib.hid hs5; have HB5 := Lib.hid hb5; clear hs5 hb5 hz5)
            exact ⟨⟨6, L2 + 1, by omega, rfl, by rw [HL2.out], HS5.out, HB5.out⟩, by simp [intOf]⟩
          · simp only [Int.cast_ofNat_Int]
            go_wp2_with (at_builtin; refine wpList_append_byte (lo := w.heap.size + 1) (m := L2) (v := .slice rb L2 rbcap) (e := padF f len (len : Int)) rfl _ _ rfl rfl rfl HSL.out HBL.out (HV.out.trans (by simp; try omega)).symm (by have := HL2.out; omega) (by omega) ?_; intro v5 w5 hs5 hb5 hz5; have HS5 := Lib.hid hs5; have HB5 := Lib.hid hb5; clear hs5 hb5 hz5)
            exact ⟨⟨7, L2 + 1, by omega, rfl, by rw [HL2.out], HS5.out, HB5.out⟩, by simp [intOf]⟩
          · simp only [Int.cast_ofNat_Int]
            go_wp2_with (at_builtin; refine wpList_append_byte (lo := w.heap.size + 1) (m := L2) (v := .slice rb L2 rbcap) (e := padF f len (len : Int)) rfl _ _ rfl rfl rfl HSL.out HBL.out (HV.out.trans (by simp; try omega)).symm (by have := HL2.out; omega) (by omega) ?_; intro v5 w5 hs5 hb5 hz5; have HS5 := Lib.hid hs5; have HB5 := Lib.hid hb5; clear hs5 hb5 hz5)
            exact ⟨⟨8, L2 + 1, by omega, rfl, by rw [HL2.out], HS5.out, HB5.out⟩, by simp [intOf]⟩
        · have ei : i = 8 := by omega
          subst ei
          have hT : L2 % 64 = 0 := by omega
          have hTl : L2 ≤ 140737488355328 := by omega
          obtain ⟨g, off, rfl, hgl, hcap, hcell⟩ : ∃ g off, rb = some ⟨g, off, none⟩ ∧ g < wr.heap.size ∧ L2 ≤ rbcap ∧ ∀ j, j < L2 → wr.cell? ⟨g, off + j, none⟩ = some (.int .u8 (padF f len (len : Int) j)) := by
            rcases HSL.out with ⟨h1, h2⟩ | ⟨g, off, cap, h1, h2, h3, h4, _, _, _, h5⟩
            · omega
            · simp only [Value.slice.injEq] at h1
              obtain ⟨rfl, _, rfl⟩ := h1
              exact ⟨g, off, rfl, h3, by omega, h5⟩
          have HT := Lib.hid hT; have HL2 := Lib.hid hL2; have HCELL := Lib.hid hcell
          clear hT hL2 hcell HSL
          simp only [Int.cast_ofNat_Int, Int.reduceSub]
          go_wp2_with fail
          have hrw := start_rw wr
          have hb6 : Below wr.heap.size wr (wr.alloc (.cells (hCells h0F) 36)) := (Below.refl _ _).alloc (Nat.le_refl _) _
          have hcell6 : ∀ j, j < L2 → (wr.alloc (.cells (hCells h0F) 36)).cell? ⟨g, off + j, none⟩ = some (.int .u8 (padF f len (len : Int) j)) := fun j hj => (hb6.cell (p := ⟨g, off + j, none⟩) hgl).trans (HCELL.out j hj)
          have hgl6 : g < (wr.alloc (.cells (hCells h0F) 36)).heap.size := Nat.lt_of_lt_of_le hgl hb6.size
          have hbl6 : Below (w.heap.size + 1) (w.alloc (.cells (bytesV 32 (fun _ => 0)) 25)) (wr.alloc (.cells (hCells h0F) 36)) := HBL.out.trans (hb6.mono hsz)
          have hsz6 : w.heap.size + 1 ≤ (wr.alloc (.cells (hCells h0F) 36)).heap.size := by have := hb6.size; omega
          have HCELL6 := Lib.hid hcell6; have HBL6 := Lib.hid hbl6
          clear hb6 hcell6 hbl6 HCELL HBL hgl hsz
          change Code.wp _ _ _ _ (wr.alloc (.cells (hCells h0F) 36))
          generalize wr.alloc (.cells (hCells h0F) 36) = w6 at *
          generalize wr.heap.size = Hb at *
          go_loopw [6, 7] (fun v c wr => ∃ kk : Nat, 64 * kk ≤ L2 ∧ c = .int .i64 ((64 * kk : Nat) : Int) ∧ RW wr v 8 (hsF h0F (padF f len (len : Int)) kk) ∧ Below w6.heap.size w6 wr) (fun _ c _ => (L2 : Int).toNat - (intOf c).toNat)
          case atStart => exact ⟨0, by omega, rfl, hrw, Below.refl _ _⟩
          case round =>
            clear hrw
            obtain ⟨kk, hkk, rfl, hV, hb7⟩ := hrel
            obtain ⟨gv, offv, capv, rfl, hgv, hgc, hgm, hvc⟩ := id hV
            by_cases hlt : 64 * kk < L2
            · have hlt' : 64 * (kk : Int) < (L2 : Int) := by omega
              have h64 : 64 * kk + 64 ≤ L2 := by have := HT.out; omega
              have hwrap : IntKind.i64.wrap (((64 * kk : Nat) : Int) + 64) = ((64 * kk : Nat) : Int) + 64 := IntWalk.i64_in _ (by omega)
              have q1 : ((64 * kk : Nat) : Int) + 64 ≤ (rbcap : Int) := by omega
              have q2 : (((64 * kk : Nat) : Int) + 64).toNat = 64 * kk + 64 := by omega
              have q3 : ¬ rbcap = 64 * kk := by omega
              have q4 : 64 * kk + 64 - 64 * kk = 64 := by omega
              have hp := fun ww (hw : ww = wr) => ref15 (hsF h0F (padF f len (len : Int)) kk) (fun j => padF f len (len : Int) (64 * kk + j)) (.slice (some ⟨gv, offv, none⟩) 8 capv) g (off + 64 * kk) 64 (rbcap - 64 * kk) ww (Nat.le_refl _) (by omega) (by rw [hw]; exact Nat.lt_of_lt_of_le hgl6 hb7.size) (by rw [hw]; exact hV)
                (fun j hj => by
                  rw [hw, Nat.add_assoc]
                  exact (hb7.cell (p := ⟨g, off + (64 * kk + j), none⟩) hgl6).trans (HCELL6.out _ (by omega))) (fun j => padF_nonneg HF0.out (by omega) _) (fun j => padF_le HF1.out _)
              have HPC := Lib.hid (hp wr rfl); have HB7 := Lib.hid hb7
              clear hp hb7 hV hvc
              go_wp2_with fail
              refine HPC.out.mono ?_
              rintro e w8 ⟨v8, rfl, hrw8, hb8⟩
              have HRW8 := Lib.hid hrw8; have HB8 := Lib.hid hb8
              clear hrw8 hb8
              go_wp2
              refine ⟨⟨kk + 1, by omega, by go_num, HRW8.out, HB7.out.trans (HB8.out.mono HB7.out.size)⟩, by simp [intOf]; omega⟩
            · have hH : outF (hsF h0F (padF f len (len : Int)) kk) = sumF f len := by
                rw [← sumF_whole, show (len + 9 + zer len) / 64 = kk by have := HL2.out; omega]
              have hlt' : decide (64 * (kk : Int) < (L2 : Int)) = false := by simp; omega
              have hbw : Below (w.heap.size + 1) (w.alloc (.cells (bytesV 32 (fun _ => 0)) 25)) wr := HBL6.out.trans (hb7.mono hsz6)
              have hres : wr.heap[w.heap.size]? = some (.cells (bytesV 32 (fun _ => 0)) 25 (0, 0)) := (hbw.block _ (by omega)).trans (heap_alloc_new w _)
              have hbf : Below w.heap.size w wr := ((Below.refl w.heap.size w).alloc (Nat.le_refl _) _).trans (hbw.mono (by omega))
              have hsz7 : w.heap.size < wr.heap.size := by have := (Array.getElem?_eq_some_iff.1 hres).1; omega
              have HH := Lib.hid hH; have HRES := Lib.hid hres; have HBF := Lib.hid hbf; have HVC := Lib.hid hvc
              clear hH hres hbf hbw hvc hb7 HL2 HT HCELL6 HBL6 hV
              generalize hsF h0F (padF f len (len : Int)) kk = H at *
              go_wp2_with (first | (refine wpList_build25 rfl rfl ?_) | refine wpList_store_row rfl 25 _ _ rfl wr.heap.size (bytesV 32 (fun _ => 0)) rfl rfl 25 (bytesV 32 (fun _ => 0)) (heap_alloc_new wr _) (HI.out _) rfl (bytesV_one _ _) ?_)
              change Code.wp _ _ _ _ (newRow32 wr (fun _ => 0))
              have hO : (newRow32 wr (fun _ => 0)).heap[wr.heap.size]? = some (.cells (bytesV 32 (o1 H 0)) 25 (0, 0)) := by
                rw [bytesV_congr (fun j _ => show o1 H 0 j = 0 from if_neg (by omega))]
                exact setRow_heap _ _ _ _ _ _ (heap_alloc_new wr _)
              have hb8 := newRow32_below wr (fun _ => 0)
              have hbf : Below w.heap.size w (newRow32 wr (fun _ => 0)) := HBF.out.trans (hb8.mono (by omega))
              have hres8 : (newRow32 wr (fun _ => 0)).heap[w.heap.size]? = some (.cells (bytesV 32 (fun _ => 0)) 25 (0, 0)) := (hb8.block _ hsz7).trans HRES.out
              have hvc8 : ∀ j, j < 8 → (newRow32 wr (fun _ => 0)).cell? ⟨gv, offv + j, none⟩ = some (.int .u32 (H j)) := fun j hj => (hb8.cell (p := ⟨gv, offv + j, none⟩) hgv).trans (HVC.out j hj)
              have hOsz : wr.heap.size < (newRow32 wr (fun _ => 0)).heap.size := by unfold newRow32; simp
              have HRES8 := Lib.hid hres8; have HBF8 := Lib.hid hbf; have HVC8 := Lib.hid hvc8
              clear hb8 hbf hres8 hvc8 HRES HBF HVC hlt'
              generalize newRow32 wr (fun _ => 0) = w8 at *
              generalize wr.heap.size = O at *
              go_loopw [9] (fun c wr => ∃ i : Nat, i ≤ 32 ∧ c = .int .i64 i ∧ wr.heap[O]? = some (.cells (bytesV 32 (o1 H i)) 25 (0, 0)) ∧ Below O w8 wr) (fun c _ => 32 - (intOf c).toNat)
              case atStart => exact ⟨0, by omega, rfl, hO, Below.refl _ _⟩
              case round =>
                clear hO
                obtain ⟨i, hi, rfl, hO, hb9⟩ := hrel
                by_cases hi32 : i < 32
                · have i32 : (i : Int) < 32 := by omega
                  have ca : wr.cell? ⟨O, i, none⟩ = some (.int .u8 (o1 H i i)) := by rw [cell_of_row wr _ _ _ _ _ hO, bytesV_get hi32]
                  have fa : wr.frozen? ⟨O, i, none⟩ = false := frozen_of_row wr _ _ _ _ hO
                  have cv : wr.cell? ⟨gv, offv + i / 4, none⟩ = some (.int .u32 (H (i / 4))) := (hb9.cell (p := ⟨gv, offv + i / 4, none⟩) hgv).trans (HVC8.out _ (by omega))
                  obtain ⟨j, hj, e5⟩ : ∃ j, j < 4 ∧ i % 4 = j := ⟨i % 4, by omega, rfl⟩
                  have hv : outF H i = H (i / 4) / 2 ^ (24 - 8 * j) % 256 := by unfold outF; rw [e5]
                  have q1 : (i : Int) / 4 = ((i / 4 : Nat) : Int) := by omega
                  have q2 : (i : Int) % 4 = (j : Int) := by omega
                  have q3 : ((i / 4 : Nat) : Int) < 8 := by omega
                  generalize hq : i / 4 = q at *
                  have HV := Lib.hid hv; have HO := Lib.hid hO; have HB9 := Lib.hid hb9
                  clear hv hO hb9
                  have ej : j = 0 ∨ j = 1 ∨ j = 2 ∨ j = 3 := by omega
                  rcases ej with rfl | rfl | rfl | rfl
                  · simp only [Int.cast_ofNat_Int] at q2
                    go_wp2
                    exact ⟨⟨i + 1, by omega, by go_num, o1_put HO.out _ HV.out.symm, HB9.out.setCell (Nat.le_refl _) _⟩, by simp [intOf]; omega⟩
                  · simp only [Int.cast_ofNat_Int] at q2
                    go_wp2
                    exact ⟨⟨i + 1, by omega, by go_num, o1_put HO.out _ HV.out.symm, HB9.out.setCell (Nat.le_refl _) _⟩, by simp [intOf]; omega⟩
                  · simp only [Int.cast_ofNat_Int] at q2
                    go_wp2
                    exact ⟨⟨i + 1, by omega, by go_num, o1_put HO.out _ HV.out.symm, HB9.out.setCell (Nat.le_refl _) _⟩, by simp [intOf]; omega⟩
                  · simp only [Int.cast_ofNat_Int] at q2
                    go_wp2
                    exact ⟨⟨i + 1, by omega, by go_num, o1_put HO.out _ (HV.out.trans (by simp)).symm, HB9.out.setCell (Nat.le_refl _) _⟩, by simp [intOf]; omega⟩
                · have ei : i = 32 := by omega
                  subst ei
                  simp only [Int.cast_ofNat_Int]
                  have hO2 : wr.heap[O]? = some (.cells (bytesV 32 (sumF f len)) 25 (0, 0)) := by
                    rw [hO, bytesV_congr (fun j hj => show o1 H 32 j = outF H j from if_pos hj), HH.out]
                  have hres9 := (hb9.block w.heap.size (by omega)).trans HRES8.out
                  have hbf9 : Below w.heap.size w wr := HBF8.out.trans (hb9.mono (by omega))
                  have HO2 := Lib.hid hO2; have HRES9 := Lib.hid hres9; have HBF9 := Lib.hid hbf9
                  clear hO hO2 hres9 hbf9 hb9
                  go_wp2_with (first | (with_reducible refine wpList_load_row rfl 25 _ rfl O rfl 25 _ _ _ HO2.out Tryd.underlying25 rfl (HI.out _) ?_) | (with_reducible refine wpList_store_row rfl 25 _ _ rfl w.heap.size (bytesV 32 (sumF f len)) rfl rfl 25 _ HRES9.out (HI.out _) (by rw [bytesV_size, bytesV_size]) (bytesV_one _ _) ?_))
                  exact bodyPost_ret (v := .agg (bytesV 32 (sumF f len))) (results_cell_row Tryd.results9 _ _ w.heap.size 25 (bytesV 32 (sumF f len)) (0, 0) _ rfl (setRow_heap _ _ _ _ _ _ HRES9.out) Tryd.underlying25 rfl (HI.out _)) rfl ⟨rfl, Go.Proofs.YtgfkmbdipemgmaaDoor.below_setRow HBF9.out (Nat.le_refl _) _⟩
    · have ht : (((L : Nat) : Int) % 64 != 56) = true := by unfold zer at hL; simp; omega
      have he : (0 : Int) = padF f len (len : Int) L := (padF_zero (by omega) (by omega)).symm
      have HE := Lib.hid he
      clear he hzm
      go_wp2_with (at_builtin; refine wpList_append_byte (lo := w.heap.size + 1) (m := L) (v := .slice ra L rcap) (e := padF f len (len : Int)) rfl _ _ rfl rfl rfl HSL.out HBL.out HE.out (by omega) (by omega) ?_; intro v5 w5 hs5 hb5 hz5; have HS5 := Lib.hid hs5; have HB5 := Lib.hid hb5; clear hs5 hb5 hz5)
      go_roundg (gk - 1)
      case measure => omega
      case rel => exact ⟨L + 1, by omega, by omega, HS5.out, HB5.out⟩
end Go.Proofs.YtgfkmbdipemgmaaDoor
