/- What the reference's Mac hands back: the same mac; nothing that was there has changed. -/
import Derived.Test.YtgfkmbdipemgmaaDoorTwo
namespace Go.Proofs.YtgfkmbdipemgmaaDoor
open Go Go.RowKit

/-- A copy onto a new slice of the call's own: what it holds. -/
theorem own_copy {B : Nat} {W w3 : World} {v1 : Value} {m : Nat} {c e : Nat → Int} (hs3 : Sl w3 W.heap.size v1 (0 + m) (joined 0 (byte e) (byte c))) (hg3 : (W.alloc (.cells #[] 5)).grownBy w3 (some W.heap.size)) (he : ∀ j, j < m → c j = e j) (hB : B ≤ W.heap.size) :
    Sl w3 B v1 m (byte e) ∧ Below W.heap.size W w3 := by
  rw [Nat.zero_add] at hs3
  refine ⟨(hs3.congr (fun j hj => ?_)).kept hB (Nat.le_refl _) (fun _ _ => rfl), ((Below.refl W.heap.size W).alloc (Nat.le_refl _) (.cells #[] 5)).grown hg3 (by simp) (fun k hk => ?_)⟩
  · unfold joined byte
    rw [if_neg (by omega), Nat.sub_zero, he j hj]
  · have : W.heap.size = k := by simpa using hk
    omega

theorem own_or {v' v : Value} {n : Nat} (h : v'.ownBlock = v.ownBlock ∨ v'.ownBlock = some n) (b : Nat) (hb : v'.ownBlock = some b) : v.ownBlock = some b ∨ n ≤ b := by
  rcases h with h | h
  · exact .inl (by rw [← h]; exact hb)
  · rw [hb] at h
    have := Option.some.inj h
    exact .inr (by omega)

set_option maxHeartbeats 1000000 in
set_option maxRecDepth 100000 in
theorem refMac11 (kv x : Value) (klen len : Nat) (kf f : Nat → Int) (w : World) (hkx : Rx w kv klen kf) (hx : Rx w x len f) (hklen : klen ≤ 140737488351328) (hlen : len ≤ 140737488351232)
    (hk0 : ∀ j, 0 ≤ kf j) (hk1 : ∀ j, kf j ≤ 255) (hf0 : ∀ j, 0 ≤ f j) (hf1 : ∀ j, f j ≤ 255) :
    Calls Tryd.prog 11 #[kv, x] w fun e w' => e = .returned (.agg (bytesV 32 (macB (keyF kf klen) f len))) ∧ Below w.heap.size w w' := by
  obtain ⟨ka, kcap, rfl⟩ := hkx.form
  obtain ⟨xa, xcap, rfl⟩ := hx.form
  obtain ⟨i5, hi5, hz0, hz1, hz2⟩ := info_parts info5
  have hsrc : ∀ o o', Src Tryd.prog 1 22 (.slice ka klen kcap) klen (cellsOf klen (byte kf)) ((w.alloc o).alloc o') := fun o o' =>
    (hkx.below (((Below.refl _ _).alloc (Nat.le_refl _) o).alloc (by simp) o')).src
  have HKX := Lib.hid hkx; have HX := Lib.hid hx; have HF0 := Lib.hid hf0; have HF1 := Lib.hid hf1; have HK0 := Lib.hid hk0; have HK1 := Lib.hid hk1; have HSRC := Lib.hid hsrc
  have HI5 := Lib.hid hi5; have HZ0 := Lib.hid hz0; have HZ1 := Lib.hid hz1; have HZ2 := Lib.hid hz2
  clear hkx hx hf0 hf1 hk0 hk1 hsrc hi5 hz0 hz1 hz2
  have hi : ∀ f, (Tryd.prog.info? 25).map (·.size) = some (bytesV 32 f).size := fun f => by rw [bytesV_size]; exact info25
  have HI := Lib.hid hi
  clear hi
  by_cases hk64 : klen ≤ 64
  go_enter Tryd.func11, Tryd.ntmps11
  have hd : decide (64 < (klen : Int)) = false := by simp; omega
  go_wp2_with (at_builtin; refine wpList_append_sl (lo := w.heap.size + 1) (m := 0) (n := klen) (r := byte (keyF kf klen)) (q := byte kf) (v := .slice (some ⟨w.heap.size + 1, 0, none⟩) 0 0) (x := .slice ka klen kcap) rfl _ _ 22 22 rfl 5 i5 (.int .u8 0) 1 Tryd.underlying22 HI5.out HZ0.out rfl HZ1.out HZ2.out rfl rfl (Sl.empty _ _ _ _ _ (Nat.le_refl _) (by simp)) (HSRC.out _ _) (fun j _ => byte_one _ j) (by simp) (by omega) (by omega) ?_; intro v1 w3 hs3 hg3 _; have hs3' := first_append _ hs3 hg3 (fun j hj => show kf j = keyF kf klen j by unfold keyF; rw [if_pos hk64, if_pos hj]); obtain ⟨a1, cap1, rfl⟩ := hs3'.1.form; have HS3 := Lib.hid hs3'; clear hs3 hs3' hg3)
  obtain ⟨n0, hn0, hn64, hn1⟩ : ∃ n0 : Nat, n0 = klen ∧ n0 ≤ 64 ∧ ∀ j, n0 ≤ j → keyF kf klen j = 0 := ⟨klen, rfl, hk64, fun j hj => by unfold keyF; rw [if_pos hk64, if_neg (by omega)]⟩
  rotate_left
  go_enter Tryd.func11, Tryd.ntmps11
  have hd : decide (64 < (klen : Int)) = true := by simp; omega
  go_wp2_with (at_builtin; refine wpList_append_sl (lo := w.heap.size + 1) (m := 0) (n := klen) (r := byte kf) (q := byte kf) (v := .slice (some ⟨w.heap.size + 1, 0, none⟩) 0 0) (x := .slice ka klen kcap) rfl _ _ 22 22 rfl 5 i5 (.int .u8 0) 1 Tryd.underlying22 HI5.out HZ0.out rfl HZ1.out HZ2.out rfl rfl (Sl.empty _ _ _ _ _ (Nat.le_refl _) (by simp)) (HSRC.out _ _) (fun j _ => byte_one _ j) (by simp) (by omega) (by omega) ?_; intro v1 w3 hs3 hg3 _; have hs3' := first_append _ hs3 hg3 (fun j _ => rfl); obtain ⟨a1, cap1, rfl⟩ := hs3'.1.form; have HS2 := Lib.hid hs3'; clear hs3 hs3' hg3)
  refine (refSum9 (.slice a1 klen cap1) klen kf _ HS2.out.1.rx hklen HK0.out HK1.out).mono ?_
  rintro e wa ⟨rfl, hba⟩
  have hbc : Below (w.heap.size + 1) (w.alloc (.cells (bytesV 32 (fun _ => 0)) 25)) (newRow32 wa (sumF kf klen)) :=
    (HS2.out.2.trans (hba.mono (by have := HS2.out.2.size; simp at this; omega))).trans ((newRow32_below wa _).mono (by have := HS2.out.2.size; have := hba.size; simp at *; omega))
  have HBC := Lib.hid hbc
  have hzc : w.heap.size + 1 ≤ (newRow32 wa (sumF kf klen)).heap.size := by have := hbc.size; simp at this; omega
  clear hba hbc HS2
  have hsrc2 : Src Tryd.prog 1 22 (.slice (some ⟨wa.heap.size, 0, none⟩) 32 32) 32 (cellsOf 32 (byte (sumF kf klen))) ((newRow32 wa (sumF kf klen)).alloc (.cells #[] 5)) :=
    ((newRow32_rx wa (sumF kf klen)).below ((Below.refl _ _).alloc (Nat.le_refl _) _)).src
  have HSRC2 := Lib.hid hsrc2
  clear hsrc2
  go_wp2_with (first | (refine wpList_store_row rfl 25 _ _ rfl wa.heap.size (bytesV 32 (sumF kf klen)) rfl rfl 25 (bytesV 32 (fun _ => 0)) (heap_alloc_new wa _) (HI.out _) (by rw [bytesV_size, bytesV_size]) (bytesV_one _ _) ?_; change wpList _ _ _ _ _ (newRow32 wa (sumF kf klen))) | (at_builtin; refine wpList_append_sl (lo := (newRow32 wa (sumF kf klen)).heap.size) (m := 0) (n := 32) (r := byte (keyF kf klen)) (q := byte (sumF kf klen)) (v := .slice (some ⟨(newRow32 wa (sumF kf klen)).heap.size, 0, none⟩) 0 0) (x := .slice (some ⟨wa.heap.size, 0, none⟩) 32 32) rfl _ _ 22 22 rfl 5 i5 (.int .u8 0) 1 Tryd.underlying22 HI5.out HZ0.out rfl HZ1.out HZ2.out rfl rfl (Sl.empty _ _ _ _ _ (Nat.le_refl _) (by simp)) HSRC2.out (fun j _ => byte_one _ j) (by simp) (by omega) (by omega) ?_; intro v4 w4 hs4 hg4 _; have hs4' := own_copy hs4 hg4 (fun j hj => show sumF kf klen j = keyF kf klen j by unfold keyF; rw [if_neg hk64, if_pos hj]) hzc; obtain ⟨a4, cap4, rfl⟩ := hs4'.1.form; have HS4 := Lib.hid hs4'; clear hs4 hs4' hg4))
  have hs3 : Sl w4 (w.heap.size + 1) (.slice a4 32 cap4) 32 (byte (keyF kf klen)) ∧ Below (w.heap.size + 1) (w.alloc (.cells (bytesV 32 (fun _ => 0)) 25)) w4 := ⟨HS4.out.1, HBC.out.trans (HS4.out.2.mono hzc)⟩
  have HS3 := Lib.hid hs3
  clear hs3
  obtain ⟨n0, hn0, hn64, hn1⟩ : ∃ n0 : Nat, n0 = 32 ∧ n0 ≤ 64 ∧ ∀ j, n0 ≤ j → keyF kf klen j = 0 := ⟨32, rfl, by omega, fun j hj => by unfold keyF; rw [if_neg hk64, if_neg (by omega)]⟩
  all_goals
    clear HK0 HK1 HKX HSRC
    have HN1 := Lib.hid hn1
    clear hn1
    go_loopg [5] (64 - n0) (fun k v wr => ∃ L, L + k = 64 ∧ n0 ≤ L ∧ Sl wr (w.heap.size + 1) v L (byte (keyF kf klen)) ∧ Below (w.heap.size + 1) (w.alloc (.cells (bytesV 32 (fun _ => 0)) 25)) wr)
    case atStart =>
      subst hn0
      exact ⟨_, by omega, Nat.le_refl _, HS3.out.1, HS3.out.2⟩
    case round =>
      clear HS3
      obtain ⟨L, hL, hL0, hsl, hbl⟩ := hrel
      obtain ⟨ra, rcap, rfl⟩ := hsl.form
      have hsz : w.heap.size + 1 ≤ wr.heap.size := by have := hbl.size; simp at this; omega
      have HSL := Lib.hid hsl; have HBL := Lib.hid hbl
      clear hsl hbl
      by_cases hk0 : gk = 0
      · have eL : L = 64 := by omega
        subst eL
        have ht : decide (((64 : Nat) : Int) < 64) = false := rfl
        obtain ⟨g, off, rfl, hg, hkc⟩ : ∃ g off, ra = some ⟨g, off, none⟩ ∧ g < wr.heap.size ∧ ∀ j, j < 64 → wr.cell? ⟨g, off + j, none⟩ = some (byte (keyF kf klen) j) := by
          rcases HSL.out with ⟨h1, h2⟩ | ⟨g, off, cap, h1, h2, h3, h4, _, _, _, h5⟩
          · omega
          · simp only [Value.slice.injEq] at h1
            obtain ⟨rfl, _, rfl⟩ := h1
            exact ⟨g, off, rfl, h3, h5⟩
        have HKC := Lib.hid hkc
        clear hkc HSL
        generalize hKK : keyF kf klen = K at *
        have HKK := Lib.hid hKK
        clear hKK
        generalize wr = w7 at *
        go_wp2
        go_loopw [7, 8, 9] (fun vx vy c w2 => ∃ i : Nat, i ≤ 64 ∧ c = .int .i64 i ∧ Xy w7.heap.size w7 w2 vx vy i i (turned K 54) (turned K 92)) (fun _ _ c _ => 64 - (intOf c).toNat)
        case atStart =>
          refine ⟨0, by omega, rfl, Sl.empty _ _ _ _ _ (Nat.le_refl _) (by simp; omega), Sl.empty _ _ _ _ _ (by simp) (by simp), ?_, ((Below.refl _ _).alloc (Nat.le_refl _) _).alloc (by simp) _, by simp; omega⟩
          intro b hb e
          have h1 : w7.heap.size = b := by simpa [Value.ownBlock] using hb
          have h2 : w7.heap.size + 1 = b := by simpa [Value.ownBlock] using e
          omega
        case round =>
          obtain ⟨i, hi, rfl, hxy⟩ := hrel
          by_cases hi64 : i < 64
          · have i64 : (i : Int) < 64 := by omega
            have ck : wr.cell? ⟨g, off + i, none⟩ = some (.int .u8 (K i)) := (hxy.below.cell (p := ⟨g, off + i, none⟩) hg).trans (HKC.out i hi64)
            have HXY := Lib.hid hxy
            clear hxy
            go_wp2_with (first | (at_builtin; refine wpList_append_byte2 (W := wr) (lo := w7.heap.size) (m := i) (v := u7) (e := turned K 54) rfl _ _ rfl rfl rfl HXY.out.slx rfl (by omega) HXY.out.le ?_; intro v5 w5 hs5 hg5 ho5; have hxy5 := HXY.out.grown hs5 hg5 ho5; have HXY5 := Lib.hid hxy5; have ck5 : w5.cell? ⟨g, off + i, none⟩ = some (.int .u8 (K i)) := (hxy5.below.cell (p := ⟨g, off + i, none⟩) hg).trans (HKC.out i hi64); clear hs5 hg5 ho5 hxy5) | (at_builtin; refine wpList_append_byte2 (W := w5) (lo := w7.heap.size) (m := i) (v := u8) (e := turned K 92) rfl _ _ rfl rfl rfl HXY5.out.sly rfl (by omega) HXY5.out.le ?_; intro v6 w6 hs6 hg6 ho6; have hxy6 := (HXY5.out.flip.grown hs6 hg6 ho6).flip; have HXY6 := Lib.hid hxy6; clear hs6 hg6 ho6 hxy6))
            exact ⟨⟨i + 1, by omega, by go_num, HXY6.out⟩, by simp [intOf]; omega⟩
          · have ei : i = 64 := by omega
            subst ei
            simp only [Int.cast_ofNat_Int]
            have hbw7 : Below w.heap.size w w7 := ((Below.refl w.heap.size w).alloc (Nat.le_refl _) _).trans (HBL.out.mono (by omega))
            have hbwr : Below w.heap.size w wr := hbw7.trans (hxy.below.mono (by omega))
            have hsx : Src Tryd.prog 1 22 (.slice xa len xcap) len (cellsOf len (byte f)) wr := (HX.out.below hbwr).src
            have HSX := Lib.hid hsx; have HXY := Lib.hid hxy
            clear hbw7 hbwr hsx hxy
            have hle := HXY.out.le
            have hX0 : ∀ j, 0 ≤ cat64 (turned K 54) f j := fun j => cat64_nonneg (fun _ => (bits_u8 _ _ _).1) HF0.out j
            have hX1 : ∀ j, cat64 (turned K 54) f j ≤ 255 := fun j => cat64_le (fun _ => (bits_u8 _ _ _).2) HF1.out j
            have hmac : sumF (cat64 (turned K 92) (sumF (cat64 (turned K 54) f) (64 + len))) (64 + 32) = macB K f len := macB_cat K f len
            have HX0 := Lib.hid hX0; have HX1 := Lib.hid hX1
            clear hX0 hX1
            go_wp2_with (at_builtin; refine wpList_append_sl (lo := w7.heap.size) (m := 64) (n := len) (r := byte (turned K 54)) (q := byte f) (v := u7) (x := .slice xa len xcap) rfl _ _ 22 22 rfl 5 i5 (.int .u8 0) 1 Tryd.underlying22 HI5.out HZ0.out rfl HZ1.out HZ2.out rfl rfl HXY.out.slx HSX.out (fun j _ => byte_one _ j) hle (by omega) (by omega) ?_; intro v5 w5 hs5 hg5 ho5; have hxy5 := HXY.out.grown (hs5.congr (fun j _ => joined_cat _ _ j)) hg5 (own_or ho5); have HXY5 := Lib.hid hxy5; clear hs5 hg5 ho5 hxy5)
            refine (refSum9 v5 (64 + len) (cat64 (turned K 54) f) w5 HXY5.out.slx.rx (by omega) HX0.out HX1.out).mono ?_
            rintro e wb ⟨rfl, hbb⟩
            have hinn := sumF_bd (cat64 (turned K 54) f) (64 + len)
            generalize sumF (cat64 (turned K 54) f) (64 + len) = inn at *
            have hxy6 := (HXY5.out.after hbb).after (newRow32_below wb inn)
            have HXY6 := Lib.hid hxy6; have HINN := Lib.hid hinn; have HMAC := Lib.hid hmac
            have hle6 := hxy6.le
            have hs6 : Src Tryd.prog 1 22 (.slice (some ⟨wb.heap.size, 0, none⟩) 32 32) 32 (cellsOf 32 (byte inn)) (newRow32 wb inn) := (newRow32_rx wb inn).src
            have HS6 := Lib.hid hs6
            clear hbb hxy6 hinn hmac hs6 HXY5 HXY HSX HX0 HX1 HF0 HF1
            have hcalls : ∀ v8 w8, Xy w7.heap.size w7 w8 v8 v5 (64 + 32) (64 + len) (cat64 (turned K 92) inn) (cat64 (turned K 54) f) → Calls Tryd.prog 9 #[v8] w8 fun e w' => e = .returned (.agg (bytesV 32 (macB K f len))) ∧ Below w8.heap.size w8 w' := fun v8 w8 h => by
              rw [← HMAC.out]
              exact refSum9 v8 (64 + 32) (cat64 (turned K 92) inn) w8 h.slx.rx (by omega) (cat64_nonneg (fun _ => (bits_u8 _ _ _).1) (fun j => (HINN.out j).1)) (cat64_le (fun _ => (bits_u8 _ _ _).2) (fun j => (HINN.out j).2))
            have HCALLS := Lib.hid hcalls
            clear hcalls HMAC HINN
            go_wp2_with (first | (refine wpList_store_row rfl 25 _ _ rfl wb.heap.size (bytesV 32 inn) rfl rfl 25 (bytesV 32 (fun _ => 0)) (heap_alloc_new wb _) (HI.out _) (by rw [bytesV_size, bytesV_size]) (bytesV_one _ _) ?_; change wpList _ _ _ _ _ (newRow32 wb inn)) | (at_builtin; refine wpList_append_sl (lo := w7.heap.size) (m := 64) (n := 32) (r := byte (turned K 92)) (q := byte inn) (v := u8) (x := .slice (some ⟨wb.heap.size, 0, none⟩) 32 32) rfl _ _ 22 22 rfl 5 i5 (.int .u8 0) 1 Tryd.underlying22 HI5.out HZ0.out rfl HZ1.out HZ2.out rfl rfl HXY6.out.sly HS6.out (fun j _ => byte_one _ j) hle6 (by omega) (by omega) ?_; intro v8 w8 hs8 hg8 ho8; have hxy8 := HXY6.out.flip.grown (hs8.congr (fun j _ => joined_cat _ _ j)) hg8 (own_or ho8); have HXY8 := Lib.hid hxy8; clear hs8 hg8 ho8 hxy8))
            refine (HCALLS.out v8 w8 HXY8.out).mono ?_
            rintro e wc ⟨rfl, hbc⟩
            have hbw7 : Below (w.heap.size + 1) (w.alloc (.cells (bytesV 32 (fun _ => 0)) 25)) wc := (HBL.out.trans (HXY8.out.below.mono hsz)).trans (hbc.mono (by have := HXY8.out.le; omega))
            have hres : wc.heap[w.heap.size]? = some (.cells (bytesV 32 (fun _ => 0)) 25 (0, 0)) := (hbw7.block _ (by omega)).trans (heap_alloc_new w _)
            have hbf : Below w.heap.size w wc := ((Below.refl w.heap.size w).alloc (Nat.le_refl _) _).trans (hbw7.mono (by omega))
            have HRES := Lib.hid hres; have HBF := Lib.hid hbf
            clear hbw7 hres hbf hbc HXY8 HXY6 HBL HCALLS HS6
            go_wp2_with (refine wpList_store_row rfl 25 _ _ rfl w.heap.size (bytesV 32 (macB K f len)) rfl rfl 25 _ HRES.out (HI.out _) (by rw [bytesV_size, bytesV_size]) (bytesV_one _ _) ?_)
            exact bodyPost_ret (v := .agg (bytesV 32 (macB K f len))) (results_cell_row Tryd.results11 _ _ w.heap.size 25 (bytesV 32 (macB K f len)) (0, 0) _ rfl (setRow_heap _ _ _ _ _ _ HRES.out) Tryd.underlying25 rfl (HI.out _)) rfl ⟨by rw [HKK.out], Go.Proofs.YtgfkmbdipemgmaaDoor.below_setRow HBF.out (Nat.le_refl _) _⟩
      · have ht : decide ((L : Int) < 64) = true := by simp; omega
        have he : (0 : Int) = keyF kf klen L := (HN1.out L hL0).symm
        have HE := Lib.hid he
        clear he
        go_wp2_with (at_builtin; refine wpList_append_byte (lo := w.heap.size + 1) (m := L) (v := .slice ra L rcap) (e := keyF kf klen) rfl _ _ rfl rfl rfl HSL.out HBL.out HE.out (by omega) (by omega) ?_; intro v5 w5 hs5 hb5 hz5; have HS5 := Lib.hid hs5; have HB5 := Lib.hid hb5; clear hs5 hb5 hz5)
        go_roundg (gk - 1)
        case measure => omega
        case rel => exact ⟨L + 1, by omega, by omega, HS5.out, HB5.out⟩
end Go.Proofs.YtgfkmbdipemgmaaDoor
