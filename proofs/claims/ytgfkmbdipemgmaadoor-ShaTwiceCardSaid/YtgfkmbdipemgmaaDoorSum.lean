/- What (*state).sum hands back: the value of all that was taken; nothing that was there has changed. -/
import Derived.Test.YtgfkmbdipemgmaaDoorWrite
import Derived.Test.YtgfkmbdipemgmaaDoorTold
namespace Go.Proofs.YtgfkmbdipemgmaaDoor
open Go Go.RowKit

def hCells (g : Nat → Int) : Array Value :=
  #[.int .u32 (g 0), .int .u32 (g 1), .int .u32 (g 2), .int .u32 (g 3), .int .u32 (g 4), .int .u32 (g 5), .int .u32 (g 6), .int .u32 (g 7)]
theorem info43 : (Tryd.prog.info? 43).map (·.size) = some 8 := by kernel_rfl

theorem heap_setH_same {w : World} {H : Nat} {h : Nat → Int} {t : TypeId} (s : w.heap[H]? = some (.cells (hCells h) t (0, 0))) (g : Nat → Int) : (setH w H g).heap[H]? = some (.cells (hCells g) t (0, 0)) := by
  have s0 := heap_setCell_same _ H 0 _ _ (.int .u32 (g 0)) s
  have s1 := heap_setCell_same _ H 1 _ _ (.int .u32 (g 1)) s0
  have s2 := heap_setCell_same _ H 2 _ _ (.int .u32 (g 2)) s1
  have s3 := heap_setCell_same _ H 3 _ _ (.int .u32 (g 3)) s2
  have s4 := heap_setCell_same _ H 4 _ _ (.int .u32 (g 4)) s3
  have s5 := heap_setCell_same _ H 5 _ _ (.int .u32 (g 5)) s4
  have s6 := heap_setCell_same _ H 6 _ _ (.int .u32 (g 6)) s5
  have s7 := heap_setCell_same _ H 7 _ _ (.int .u32 (g 7)) s6
  unfold setH
  rw [s7]
  simp [hCells]

theorem below_setH {B : Nat} {a w : World} (h : Below B a w) {H : Nat} (hH : B ≤ H) (g : Nat → Int) : Below B a (setH w H g) :=
  (((((((h.setCell hH _).setCell hH _).setCell hH _).setCell hH _).setCell hH _).setCell hH _).setCell hH _).setCell hH _

/-- What holds at each round's head of the last loop: kk pieces have been taken, k bytes are left. -/
structure Sm (lo : Nat) (w1 wr : World) (Hb T : Nat) (h e : Nat → Int) (kk k : Nat) (v : Value) : Prop where
  tot : k + 64 * kk = T
  sl : Sl wr lo v k (byte (fun j => e (64 * kk + j)))
  blk : wr.heap[Hb]? = some (.cells (hCells (hsF h e kk)) 43 (0, 0))
  below : Below lo w1 wr
  hb : lo ≤ Hb
  own : ∀ b, v.ownBlock = some b → b < Hb

theorem Sm.next {lo : Nat} {w1 wr w3 : World} {Hb T : Nat} {h e : Nat → Int} {kk k g off cap nq : Nat} (W : Sm lo w1 wr Hb T h e kk k (.slice (some ⟨g, off, none⟩) k cap)) (h64 : 64 ≤ k)
    (hb : Below (wr.drewN nq).heap.size (wr.drewN nq) w3) {V : Value} (hV : V = .slice (some (if cap = 64 then ⟨g, off, none⟩ else (⟨g, off, none⟩ : Addr).add 64)) (k - 64) (cap - 64)) :
    Sm lo w1 (setH w3 Hb (pieceF (hsF h e kk) (fun j => e (64 * kk + j)))) Hb T h e (kk + 1) (k - 64) V := by
  have hgb := W.sl.block g rfl
  have hlt : Hb < wr.heap.size := (Array.getElem?_eq_some_iff.1 W.blk).1
  have hcut := W.sl.drop h64
  rw [← hV] at hcut
  have hown : V.ownBlock = some g := by
    subst hV
    show some (if cap = 64 then (⟨g, off, none⟩ : Addr) else (⟨g, off, none⟩ : Addr).add 64).block = some g
    split
    · rfl
    · unfold Addr.add; split <;> rfl
  have hgH := W.own g rfl
  have b3 : w3.heap[Hb]? = some (.cells (hCells (hsF h e kk)) 43 (0, 0)) := (hb.block Hb hlt).trans W.blk
  refine ⟨by have := W.tot; omega, ?_, heap_setH_same b3 _, ?_, W.hb, fun b hb' => W.own b (by rw [hown] at hb'; exact hb')⟩
  · have h1 := hcut.kept (w' := setH w3 Hb (pieceF (hsF h e kk) (fun j => e (64 * kk + j)))) (Nat.le_refl _) (by have := hb.size; rw [size_setH]; exact this) (fun b hb' => by
      rw [hown] at hb'
      have hbg : g = b := by simpa using hb'
      subst hbg
      rw [heap_setH _ _ _ _ (by omega)]
      exact hb.block g hgb.2)
    refine h1.congr (fun j _ => ?_)
    show byte _ (64 + j) = byte _ j
    unfold byte
    show Value.int .u8 (e (64 * kk + (64 + j))) = .int .u8 (e (64 * (kk + 1) + j))
    rw [show 64 * kk + (64 + j) = 64 * (kk + 1) + j by omega]
  · have hlo : lo ≤ wr.heap.size := Nat.le_trans W.hb (Nat.le_of_lt hlt)
    have b := hb.mono (B' := lo) hlo
    exact below_setH (W.below.trans ⟨b.os, b.tape, b.output, b.size, b.block⟩) W.hb _

theorem first_append {w w3 : World} {v1 : Value} {m : Nat} {c e : Nat → Int} (o : Obj) (hs3 : Sl w3 (w.heap.size + 1) v1 (0 + m) (joined 0 (byte e) (byte c))) (hg3 : ((w.alloc o).alloc (.cells #[] 5)).grownBy w3 (some (w.heap.size + 1))) (he : ∀ j, j < m → c j = e j) :
    Sl w3 (w.heap.size + 1) v1 m (byte e) ∧ Below (w.heap.size + 1) (w.alloc o) w3 := by
  rw [Nat.zero_add] at hs3
  refine ⟨hs3.congr (fun j hj => ?_), ((Below.refl (w.heap.size + 1) (w.alloc o)).alloc (by simp) (.cells #[] 5)).grown hg3 (by simp) (fun k hk => ?_)⟩
  · unfold joined byte
    rw [if_neg (by omega), Nat.sub_zero, he j hj]
  · have : w.heap.size + 1 = k := by simpa using hk
    omega

set_option maxHeartbeats 1000000 in
set_option maxRecDepth 100000 in
theorem sum14 (S lo m : Nat) (h c0' : Nat → Int) (rest : Value) (n : Int) (w : World)
    (hS : StB w S h rest n) (hr : Sl w lo rest m (byte c0')) (hm : m < 64) (hn0 : 0 ≤ n) (hn1 : n ≤ 1125899906842624)
    (hc0 : ∀ j, 0 ≤ c0' j) (hc1 : ∀ j, c0' j ≤ 255) (hg : 0 < S) (hK : ∀ j, j < 64 → w.cell? ⟨0, j, none⟩ = some (.int .u32 (kon.getD j 0))) :
    Calls Tryd.prog 14 #[.pointer (some ⟨S, 0, none⟩)] w fun e w' => e = .returned (.agg (bytesV 32 (outF (hsF h (padF c0' m n) ((m + 9 + zer m) / 64))))) ∧ Below w.heap.size w w' := by
  obtain ⟨i5, hi5, hz0, hz1, hz2⟩ := info_parts info5
  have hlt := hS.lt
  have HS := Lib.hid hS; have HR := Lib.hid hr; have HC0 := Lib.hid hc0; have HC1 := Lib.hid hc1; have HK := Lib.hid hK
  have HI5 := Lib.hid hi5; have HZ0 := Lib.hid hz0; have HZ1 := Lib.hid hz1; have HZ2 := Lib.hid hz2
  have c8 := hS.cell 8
  simp only [stCells, List.getElem?_toArray, List.getElem?_cons_zero, List.getElem?_cons_succ] at c8
  clear hS hr hc0 hc1 hK hi5 hz0 hz1 hz2
  go_enter Tryd.func14, Tryd.ntmps14
  go_wp2_with (first | (at_builtin; refine wpList_append_sl (lo := w.heap.size + 1) (m := 0) (n := m) (r := byte (padF c0' m n)) (q := byte c0') (v := .slice (some ⟨w.heap.size + 1, 0, none⟩) 0 0) (x := rest) rfl _ _ 22 22 rfl 5 i5 (.int .u8 0) 1 Tryd.underlying22 HI5.out HZ0.out rfl HZ1.out HZ2.out rfl rfl (Sl.empty _ _ _ _ _ (Nat.le_refl _) (by simp)) (((HR.out.alloc _).alloc _).src Tryd.underlying22 (fun j _ => byte_one c0' j)) (fun j _ => byte_one _ j) (by simp) (by omega) (by omega) ?_; intro v1 w3 hs3 hg3 _; have hs3' := first_append _ hs3 hg3 (fun j hj => (padF_lo hj).symm); have HS3 := Lib.hid hs3'; clear hs3 hs3' hg3) | (at_builtin; refine wpList_append_byte (lo := w.heap.size + 1) (m := m) (v := v1) (e := padF c0' m n) rfl _ _ rfl rfl rfl HS3.out.1 HS3.out.2 padF_mid.symm (by omega) (by have := HS3.out.2.size; simp at this; omega) ?_; intro v4 w4 hs4 hb4 hz4; have HS4 := Lib.hid hs4; have HB4 := Lib.hid hb4; obtain ⟨a4, cap4, rfl⟩ := hs4.form; clear hs4 hb4 hz4))
  have hz4 : w.heap.size + 1 ≤ w4.heap.size := by have := HB4.out.size; simp at this; omega
  have hcS : ∀ wr, Below (w.heap.size + 1) (w.alloc (.cells (bytesV 32 (fun _ => 0)) 25)) wr → StB wr S h rest n := fun wr hb => HS.out.kept (by rw [hb.block S (by omega)]; exact Below.heap_alloc w _ S hlt)
  have HCS := Lib.hid hcS
  clear hcS
  go_loopg [3] (zer m) (fun k v wr => ∃ L, L + k = m + 1 + zer m ∧ m + 1 ≤ L ∧ Sl wr (w.heap.size + 1) v L (byte (padF c0' m n)) ∧ Below (w.heap.size + 1) (w.alloc (.cells (bytesV 32 (fun _ => 0)) 25)) wr)
  case atStart => exact ⟨m + 1, by omega, by omega, HS4.out, HB4.out⟩
  case round =>
    obtain ⟨L, hL, hL1, hsl, hbl⟩ := hrel
    obtain ⟨ra, rcap, rfl⟩ := hsl.form
    have hzm : (m + 1 + zer m) % 64 = 56 := by unfold zer; omega
    have hz63 : zer m < 64 := by unfold zer; omega
    have hsz : w.heap.size + 1 ≤ wr.heap.size := by have := hbl.size; simp at this; omega
    have HSL := Lib.hid hsl; have HBL := Lib.hid hbl
    clear hsl hbl
    by_cases hk0 : gk = 0
    · have ht : (((L : Nat) : Int) % 64 != 56) = false := by simp; omega
      have eL : L = m + 1 + zer m := by omega
      have EL := Lib.hid eL
      clear eL hL
      go_wp2
      go_loopw [3, 22] (fun v c wr => ∃ i L, i ≤ 8 ∧ c = .int .i64 ((i : Nat) : Int) ∧ L = m + 1 + zer m + i ∧ Sl wr (w.heap.size + 1) v L (byte (padF c0' m n)) ∧ Below (w.heap.size + 1) (w.alloc (.cells (bytesV 32 (fun _ => 0)) 25)) wr) (fun _ c _ => 8 - (intOf c).toNat)
      case atStart => exact ⟨0, L, by omega, rfl, EL.out, HSL.out, HBL.out⟩
      case round =>
        clear HSL HBL hsz
        obtain ⟨i, L2, hi, rfl, hL2, hsl, hbl⟩ := hrel
        obtain ⟨rb, rbcap, rfl⟩ := hsl.form
        have hsz : w.heap.size + 1 ≤ wr.heap.size := by have := hbl.size; simp at this; omega
        have HSL := Lib.hid hsl; have HBL := Lib.hid hbl
        clear hsl hbl
        by_cases hi8 : i < 8
        · have c9 := (HCS.out wr HBL.out).cell 9
          simp only [stCells, List.getElem?_toArray, List.getElem?_cons_zero, List.getElem?_cons_succ] at c9
          have hv := padF_bits (c := c0') (m := m) (n := n) i
          rw [← hL2] at hv
          have HV := Lib.hid hv
          clear hv
          have HL2 := Lib.hid hL2
          clear hL2
          have ei : i = 0 ∨ i = 1 ∨ i = 2 ∨ i = 3 ∨ i = 4 ∨ i = 5 ∨ i = 6 ∨ i = 7 := by omega
          rcases ei with rfl | rfl | rfl | rfl | rfl | rfl | rfl | rfl
          · simp only [Int.cast_ofNat_Int]
            go_wp2_with (at_builtin; refine wpList_append_byte (lo := w.heap.size + 1) (m := L2) (v := .slice rb L2 rbcap) (e := padF c0' m n) rfl _ _ rfl rfl rfl HSL.out HBL.out (HV.out.trans (by simp; try omega)).symm (by have := HL2.out; have : zer m < 64 := hz63; omega) (by omega) ?_; intro v5 w5 hs5 hb5 hz5; have HS5 := Lib.hid hs5; have HB5 := Lib.hid hb5; clear hs5 hb5 hz5)
            exact ⟨⟨1, L2 + 1, by omega, rfl, by rw [HL2.out], HS5.out, HB5.out⟩, by simp [intOf]⟩
          · simp only [Int.cast_ofNat_Int]
            go_wp2_with (at_builtin; refine wpList_append_byte (lo := w.heap.size + 1) (m := L2) (v := .slice rb L2 rbcap) (e := padF c0' m n) rfl _ _ rfl rfl rfl HSL.out HBL.out (HV.out.trans (by simp; try omega)).symm (by have := HL2.out; have : zer m < 64 := hz63; omega) (by omega) ?_; intro v5 w5 hs5 hb5 hz5; have HS5 := Lib.hid hs5; have HB5 := Lib.hid hb5; clear hs5 hb5 hz5)
            exact ⟨⟨2, L2 + 1, by omega, rfl, by rw [HL2.out], HS5.out, HB5.out⟩, by simp [intOf]⟩
          · simp only [Int.cast_ofNat_Int]
            go_wp2_with (at_builtin; refine wpList_append_byte (lo := w.heap.size + 1) (m := L2) (v := .slice rb L2 rbcap) (e := padF c0' m n) rfl _ _ rfl rfl rfl HSL.out HBL.out (HV.out.trans (by simp; try omega)).symm (by have := HL2.out; have : zer m < 64 := hz63; omega) (by omega) ?_; intro v5 w5 hs5 hb5 hz5; have HS5 := Lib.hid hs5; have HB5 := Lib.hid hb5; clear hs5 hb5 hz5)
            exact ⟨⟨3, L2 + 1, by omega, rfl, by rw [HL2.out], HS5.out, HB5.out⟩, by simp [intOf]⟩
          · simp only [Int.cast_ofNat_Int]
            go_wp2_with (at_builtin; refine wpList_append_byte (lo := w.heap.size + 1) (m := L2) (v := .slice rb L2 rbcap) (e := padF c0' m n) rfl _ _ rfl rfl rfl HSL.out HBL.out (HV.out.trans (by simp; try omega)).symm (by have := HL2.out; have : zer m < 64 := hz63; omega) (by omega) ?_; intro v5 w5 hs5 hb5 hz5; have HS5 := Lib.hid hs5; have HB5 := Lib.hid hb5; clear hs5 hb5 hz5)
            exact ⟨⟨4, L2 + 1, by omega, rfl, by rw [HL2.out], HS5.out, HB5.out⟩, by simp [intOf]⟩
          · simp only [Int.cast_ofNat_Int]
            go_wp2_with (at_builtin; refine wpList_append_byte (lo := w.heap.size + 1) (m := L2) (v := .slice rb L2 rbcap) (e := padF c0' m n) rfl _ _ rfl rfl rfl HSL.out HBL.out (HV.out.trans (by simp; try omega)).symm (by have := HL2.out; have : zer m < 64 := hz63; omega) (by omega) ?_; intro v5 w5 hs5 hb5 hz5; have HS5 := Lib.hid hs5; have HB5 := Lib.hid hb5; clear hs5 hb5 hz5)
            exact ⟨⟨5, L2 + 1, by omega, rfl, by rw [HL2.out], HS5.out, HB5.out⟩, by simp [intOf]⟩
          · simp only [Int.cast_ofNat_Int]
            go_wp2_with (at_builtin; refine wpList_append_byte (lo := w.heap.size + 1) (m := L2) (v := .slice rb L2 rbcap) (e := padF c0' m n) rfl _ _ rfl rfl rfl HSL.out HBL.out (HV.out.trans (by simp; try omega)).symm (by have := HL2.out; have : zer m < 64 := hz63; omega) (by omega) ?_; intro v5 w5 hs5 hb5 hz5; have HS5 := Lib.hid hs5; have HB5 := Lib.hid hb5; clear hs5 hb5 hz5)
            exact ⟨⟨6, L2 + 1, by omega, rfl, by rw [HL2.out], HS5.out, HB5.out⟩, by simp [intOf]⟩
          · simp only [Int.cast_ofNat_Int]
            go_wp2_with (at_builtin; refine wpList_append_byte (lo := w.heap.size + 1) (m := L2) (v := .slice rb L2 rbcap) (e := padF c0' m n) rfl _ _ rfl rfl rfl HSL.out HBL.out (HV.out.trans (by simp; try omega)).symm (by have := HL2.out; have : zer m < 64 := hz63; omega) (by omega) ?_; intro v5 w5 hs5 hb5 hz5; have HS5 := Lib.hid hs5; have HB5 := Lib.hid hb5; clear hs5 hb5 hz5)
            exact ⟨⟨7, L2 + 1, by omega, rfl, by rw [HL2.out], HS5.out, HB5.out⟩, by simp [intOf]⟩
          · simp only [Int.cast_ofNat_Int]
            go_wp2_with (at_builtin; refine wpList_append_byte (lo := w.heap.size + 1) (m := L2) (v := .slice rb L2 rbcap) (e := padF c0' m n) rfl _ _ rfl rfl rfl HSL.out HBL.out (HV.out.trans (by simp; try omega)).symm (by have := HL2.out; have : zer m < 64 := hz63; omega) (by omega) ?_; intro v5 w5 hs5 hb5 hz5; have HS5 := Lib.hid hs5; have HB5 := Lib.hid hb5; clear hs5 hb5 hz5)
            exact ⟨⟨8, L2 + 1, by omega, rfl, by rw [HL2.out], HS5.out, HB5.out⟩, by simp [intOf]⟩
        · have ei : i = 8 := by omega
          subst ei
          have hT : L2 % 64 = 0 := by omega
          have hT2 : L2 = m + 9 + zer m := by omega
          have hTl : L2 ≤ 200 := by omega
          have hst := HCS.out wr HBL.out
          have c0 := hst.cell 0; have c1 := hst.cell 1; have c2 := hst.cell 2; have c3 := hst.cell 3
          have c4 := hst.cell 4; have c5 := hst.cell 5; have c6 := hst.cell 6; have c7 := hst.cell 7
          simp only [stCells, List.getElem?_toArray, List.getElem?_cons_zero, List.getElem?_cons_succ] at c0 c1 c2 c3 c4 c5 c6 c7
          have HT := Lib.hid hT; have HT2 := Lib.hid hT2
          clear hT hT2 hL2 hst
          simp only [Int.cast_ofNat_Int]
          go_wp2_with fail
          have hownb : ∀ b, (Value.slice rb L2 rbcap).ownBlock = some b → b < wr.heap.size := fun b hb => (HSL.out.block b hb).2
          have hsm : Sm (w.heap.size + 1) (w.alloc (.cells (bytesV 32 (fun _ => 0)) 25)) (wr.alloc (.cells (hCells h) 43)) wr.heap.size L2 h (padF c0' m n) 0 L2 (.slice rb L2 rbcap) :=
            ⟨by omega, (HSL.out.alloc _).congr (fun j _ => by show byte _ j = byte _ j; unfold byte; simp), heap_alloc_new wr _, HBL.out.alloc hsz _, hsz, hownb⟩
          have HSM := Lib.hid hsm
          clear hsm hownb HSL HBL c0 c1 c2 c3 c4 c5 c6 c7 c8
          have hHb : w.heap.size + 1 ≤ wr.heap.size := hsz
          clear hsz
          change Code.wp _ _ _ _ (wr.alloc (.cells (hCells h) 43))
          generalize wr.alloc (.cells (hCells h) 43) = w6 at *
          generalize wr.heap.size = Hb at *
          go_loopg [3] L2 (fun k v wr => ∃ kk, Sm (w.heap.size + 1) (w.alloc (.cells (bytesV 32 (fun _ => 0)) 25)) wr Hb L2 h (padF c0' m n) kk k v)
          case atStart => exact ⟨0, HSM.out⟩
          case round =>
            clear HSM
            obtain ⟨kk, hw⟩ := hrel
            obtain ⟨rc, rccap, rfl⟩ := hw.sl.form
            have HW := Lib.hid hw
            by_cases h64 : 64 ≤ gk
            · have c0 := cell_of_row _ _ 0 _ _ _ hw.blk; have c1 := cell_of_row _ _ 1 _ _ _ hw.blk; have c2 := cell_of_row _ _ 2 _ _ _ hw.blk; have c3 := cell_of_row _ _ 3 _ _ _ hw.blk
              have c4 := cell_of_row _ _ 4 _ _ _ hw.blk; have c5 := cell_of_row _ _ 5 _ _ _ hw.blk; have c6 := cell_of_row _ _ 6 _ _ _ hw.blk; have c7 := cell_of_row _ _ 7 _ _ _ hw.blk
              simp only [hCells, List.getElem?_toArray, List.getElem?_cons_zero, List.getElem?_cons_succ] at c0 c1 c2 c3 c4 c5 c6 c7
              clear hw
              obtain ⟨g, off, rfl, hgl, hcap, hcell⟩ : ∃ g off, rc = some ⟨g, off, none⟩ ∧ g < wr.heap.size ∧ gk ≤ rccap ∧ ∀ j, j < 64 → wr.cell? ⟨g, off + j, none⟩ = some (.int .u8 (padF c0' m n (64 * kk + j))) := by
                rcases HW.out.sl with ⟨h1, h2⟩ | ⟨g, off, cap, h1, h2, h3, h4, _, _, _, h5⟩
                · omega
                · simp only [Value.slice.injEq] at h1
                  obtain ⟨rfl, _, rfl⟩ := h1
                  exact ⟨g, off, rfl, h3, by omega, fun j hj => h5 j (by omega)⟩
              have HCELL := Lib.hid hcell
              clear hcell
              have hcall : ∀ ww : World, ww.heap = wr.heap → _ := fun ww e => piece18 (hsF h (padF c0' m n) kk) (fun j => padF c0' m n (64 * kk + j)) g off 64 rccap ww (by omega) (by rw [e]; exact hgl) (by rw [e]; omega)
                (fun j hj => (World.cell?_of_block (w := wr) (a := ⟨g, off + j, none⟩) (by rw [e])).trans (HCELL.out j hj)) (fun j => padF_nonneg HC0.out hn0 _) (fun j => padF_le HC1.out _)
                (fun j hj => by
                  have e1 : ww.heap[0]? = w.heap[0]? := by rw [e, HW.out.below.block 0 (by omega)]; exact Below.heap_alloc w _ 0 (by omega)
                  exact (World.cell?_of_block (w := w) (a := ⟨0, j, none⟩) e1).trans (HK.out j hj))
              have HCALL := Lib.hid hcall
              clear hcall
              go_wp2_with fail
              refine wp_region_steps [.inl [1, 2], .inr [0]] [3, 4] (by kernel_rfl) (by kernel_rfl) (fun _ _ _ d _ h => by cases d <;> exact h) ?_
              simp only [wpSteps, pick, List.getD_cons_zero, List.getD_cons_succ]
              repeat (go_big_quiet_step (fail))
              refine wpQuiet_nil ?_
              repeat (go_big_quiet_step (fail))
              refine wpQuiet_nil ?_
              intro wq hwq
              obtain ⟨nq, rfl⟩ := hwq
              have hpc := HCALL.out (wr.drewN (1 + nq)) rfl
              have HPC := Lib.hid hpc
              clear hpc HCALL
              have hc2 : rccap = 64 ∨ ¬ rccap = 64 := by omega
              rcases hc2 with rfl | hc2
              all_goals
                go_wp2_with fail
                refine HPC.out.mono ?_
                rintro e w7 ⟨rfl, hb7⟩
                have hblk := (hb7.block Hb (Array.getElem?_eq_some_iff.1 HW.out.blk).1).trans HW.out.blk
                have e0 := cell_of_row _ _ 0 _ _ _ hblk; have e1 := cell_of_row _ _ 1 _ _ _ hblk; have e2 := cell_of_row _ _ 2 _ _ _ hblk; have e3 := cell_of_row _ _ 3 _ _ _ hblk
                have e4 := cell_of_row _ _ 4 _ _ _ hblk; have e5 := cell_of_row _ _ 5 _ _ _ hblk; have e6 := cell_of_row _ _ 6 _ _ _ hblk; have e7 := cell_of_row _ _ 7 _ _ _ hblk
                have g0 := frozen_of_row _ _ 0 _ _ hblk; have g1 := frozen_of_row _ _ 1 _ _ hblk; have g2 := frozen_of_row _ _ 2 _ _ hblk; have g3 := frozen_of_row _ _ 3 _ _ hblk
                have g4 := frozen_of_row _ _ 4 _ _ hblk; have g5 := frozen_of_row _ _ 5 _ _ hblk; have g6 := frozen_of_row _ _ 6 _ _ hblk; have g7 := frozen_of_row _ _ 7 _ _ hblk
                simp only [hCells, List.getElem?_toArray, List.getElem?_cons_zero, List.getElem?_cons_succ] at e0 e1 e2 e3 e4 e5 e6 e7
                have HB7 := Lib.hid hb7
                clear hblk hb7 c0 c1 c2 c3 c4 c5 c6 c7
                go_wp2_with fail
              all_goals
                go_roundg (gk - 64)
                case measure => omega
                case rel =>
                  refine ⟨kk + 1, HW.out.next (nq := 1 + nq) (by omega) HB7.out ?_⟩
                  first
                    | (rw [show gk - 64 = 0 by omega]; rfl)
                    | (rw [if_neg (by assumption)]; rfl)
            · have hfin : gk = 0 ∧ kk = (m + 9 + zer m) / 64 := by have := HW.out.tot; have := HT.out; have := HT2.out; omega
              obtain ⟨rfl, hkk⟩ := hfin
              have c0 := cell_of_row _ _ 0 _ _ _ hw.blk; have c1 := cell_of_row _ _ 1 _ _ _ hw.blk; have c2 := cell_of_row _ _ 2 _ _ _ hw.blk; have c3 := cell_of_row _ _ 3 _ _ _ hw.blk
              have c4 := cell_of_row _ _ 4 _ _ _ hw.blk; have c5 := cell_of_row _ _ 5 _ _ _ hw.blk; have c6 := cell_of_row _ _ 6 _ _ _ hw.blk; have c7 := cell_of_row _ _ 7 _ _ _ hw.blk
              simp only [hCells, List.getElem?_toArray, List.getElem?_cons_zero, List.getElem?_cons_succ] at c0 c1 c2 c3 c4 c5 c6 c7
              have hres : wr.heap[w.heap.size]? = some (.cells (bytesV 32 (fun _ => 0)) 25 (0, 0)) := (hw.below.block _ (by omega)).trans (heap_alloc_new w _)
              have HRES := Lib.hid hres; have HKK := Lib.hid hkk
              clear hw hres hkk
              have hwsz : w.heap.size < wr.heap.size := by have := (Array.getElem?_eq_some_iff.1 HRES.out).1; omega
              have hi : ∀ f, (Tryd.prog.info? 25).map (·.size) = some (bytesV 32 f).size := fun f => by rw [bytesV_size]; exact info25
              have HI := Lib.hid hi
              clear hi
              go_wp2_with (first | (go_at_call 19; refine (told19 (hsF h (padF c0' m n) kk) _).mono ?_; rintro e w8 ⟨rfl, hb8⟩; have h8 := (hb8.block _ hwsz).trans HRES.out; have HRES8 := Lib.hid h8; have HB8 := Lib.hid hb8; clear h8 hb8) | (with_reducible refine wpList_store_row rfl 25 _ _ rfl w.heap.size (bytesV 32 (outF (hsF h (padF c0' m n) kk))) rfl rfl 25 _ HRES8.out (HI.out _) (by rw [bytesV_size, bytesV_size]) (bytesV_one _ _) ?_))
              have hbf : Below w.heap.size w (w8.setRow w.heap.size (bytesV 32 (outF (hsF h (padF c0' m n) kk)))) :=
                below_setRow ((((Below.refl w.heap.size w).alloc (Nat.le_refl _) (.cells (bytesV 32 (fun _ => 0)) 25)).trans (HW.out.below.mono (by omega))).trans (HB8.out.mono (by omega))) (Nat.le_refl _) _
              exact bodyPost_ret (v := .agg (bytesV 32 (outF (hsF h (padF c0' m n) kk)))) (results_cell_row Tryd.results14 _ _ w.heap.size 25 (bytesV 32 (outF (hsF h (padF c0' m n) kk))) (0, 0) _ rfl (setRow_heap _ _ _ _ _ _ HRES8.out) Tryd.underlying25 rfl (HI.out _)) rfl ⟨by rw [← HKK.out], hbf⟩
    · have ht : (((L : Nat) : Int) % 64 != 56) = true := by unfold zer at hL; simp; omega
      have he : (0 : Int) = padF c0' m n L := (padF_zero (by omega) (by omega)).symm
      have HE := Lib.hid he
      clear he hzm
      go_wp2_with (at_builtin; refine wpList_append_byte (lo := w.heap.size + 1) (m := L) (v := .slice ra L rcap) (e := padF c0' m n) rfl _ _ rfl rfl rfl HSL.out HBL.out HE.out (by omega) (by omega) ?_; intro v5 w5 hs5 hb5 hz5; have HS5 := Lib.hid hs5; have HB5 := Lib.hid hb5; clear hs5 hb5 hz5)
      go_roundg (gk - 1)
      case measure => omega
      case rel => exact ⟨L + 1, by omega, by omega, HS5.out, HB5.out⟩
end Go.Proofs.YtgfkmbdipemgmaaDoor
