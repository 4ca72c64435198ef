/- The walk of the law on two sums: it returns true; nothing that was there has changed. -/
import Derived.Test.YtgfkmbdipemgmaaDoorLawKeys
namespace Go.Proofs.YtgfkmbdipemgmaaDoor
open Go Go.RowKit

/-- An append onto a slice, in a region's operation that is wanted. -/
theorem wpList_append_slw {ops : Array Oper} {rest : List Oper} {o : Oper} {a : Act} {w : World} {Q : Exit → Act → World → Prop} (hw : Region.wanted o (yielded ops a.tmps) = true) (s y : Operand) (t tx : TypeId)
    (ho : o.op = .call { callee := .builtin .append, args := #[s, y], argTypes := #[t, tx] })
    (e : TypeId) (i : TypeInfo) (z : Value) (bytes : Nat) (ht : Tryd.prog.underlying t = some (.slice e)) (hi : Tryd.prog.info? e = some i) (hz : i.zero = some z) (hz1 : z.cells.size = 1) (hs1 : i.size = 1) (hby : i.bytes = bytes)
    {lo m n : Nat} {v x : Value} {r q : Nat → Value} (hv : a.eval s = v) (hxv : a.eval y = x) (hs : Sl w lo v m r) (hx : Src Tryd.prog 1 tx x n (cellsOf n q) w) (h1 : ∀ j, j < m → (r j).oneCell' = true) (hlo : lo ≤ w.heap.size)
    (hlen : (m + n) * bytes ≤ 140737488355328) (hlen' : m + n ≤ 140737488355328)
    (h : ∀ v' w', Sl w' lo v' (m + n) (joined m r q) → w.grownBy w' v.ownBlock → (v'.ownBlock = v.ownBlock ∨ v'.ownBlock = some w.heap.size) → wpList Tryd.prog ops Q rest (a.put o.dst v') w') : wpList Tryd.prog ops Q (o :: rest) a w :=
  wpList_step fun K hK => by
    obtain ⟨v', w', hr, h2, h3, h4⟩ := run_append_sl (P := Tryd.prog) t tx o.type e i z bytes ht hi hz hz1 hs1 hby hs hx h1 hlo hlen hlen'
    rw [if_pos hw]
    unfold Oper.wp execOp
    simp only [ho, resolve, invoke, builtin, Sem.run_bind, Sem.run_pure, Result.andThen_ok, List.map_toArray, List.map_cons, List.map_nil, hv, hxv, hr]
    exact hK _ _ (h v' w' h2 h3 h4)

theorem make64 (w : World) : (Instr.makeSlice 22 (.int .i64 64) (.int .i64 64)).run Tryd.prog w = .ok (.slice (some ⟨w.heap.size, 0, none⟩) 64 64) (w.alloc (.cells (bytesV 64 (fun _ => 0)) 5)) := by
  obtain ⟨i5, hi5, hz0, hz1, hz2⟩ := info_parts info5
  have h := run_make (P := Tryd.prog) w 22 5 i5 (.int .u8 0) Tryd.underlying22 hi5 hz0 .i64 .i64 64 64 (by omega) (by omega) (by rw [hz2]; omega) (by omega)
  rw [hz1] at h
  rw [show madeCells (Value.int IntKind.u8 0).cells (Int.toNat 64 * 1) = bytesV 64 (fun _ => 0) by kernel_rfl] at h
  exact h

def tz (K : Nat → Int) (c : Int) (i j : Nat) : Int := if j < i then turned K c j else 0

/-- The two rows, as far as i bytes of them are there. -/
structure Tw (w3 wr : World) (K : Nat → Int) (i : Nat) : Prop where
  x : wr.heap[w3.heap.size]? = some (.cells (bytesV 64 (tz K 54 i)) 5 (0, 0))
  y : wr.heap[w3.heap.size + 1]? = some (.cells (bytesV 64 (tz K 92 i)) 5 (0, 0))
  below : Below w3.heap.size w3 wr

theorem tz_put (K : Nat → Int) (c : Int) (i : Nat) (v : Int) (h : v = turned K c i) : bytesV 64 (fun j => if j = i then v else tz K c i j) = bytesV 64 (tz K c (i + 1)) :=
  bytesV_congr fun j _ => by
    show (if j = i then v else tz K c i j) = tz K c (i + 1) j
    unfold tz
    by_cases e : j = i
    · subst e; rw [if_pos rfl, if_pos (by omega), h]
    · rw [if_neg e]
      by_cases l : j < i
      · rw [if_pos l, if_pos (by omega)]
      · rw [if_neg l, if_neg (by omega)]

theorem Tw.step {w3 wr : World} {K : Nat → Int} {i : Nat} (h : Tw w3 wr K i) (v1 v2 : Int) (h1 : v1 = turned K 54 i) (h2 : v2 = turned K 92 i) :
    Tw w3 ((wr.setCell ⟨w3.heap.size, i, none⟩ (.int .u8 v1)).setCell ⟨w3.heap.size + 1, i, none⟩ (.int .u8 v2)) K (i + 1) where
  x := by rw [heap_setCell_other _ _ _ _ (by simp), heap_setCell_same wr _ _ _ _ _ h.x, bytesV_set, tz_put K 54 i v1 h1]
  y := by
    have hy : (wr.setCell ⟨w3.heap.size, i, none⟩ (.int .u8 v1)).heap[w3.heap.size + 1]? = some (.cells (bytesV 64 (tz K 92 i)) 5 (0, 0)) := by rw [heap_setCell_other _ _ _ _ (by simp)]; exact h.y
    rw [heap_setCell_same _ _ _ _ _ _ hy, bytesV_set, tz_put K 92 i v2 h2]
  below := (h.below.setCell (Nat.le_refl _) _).setCell (by simp) _

theorem row_sl {w : World} {lo b : Nat} {g : Nat → Int} (h : w.heap[b]? = some (.cells (bytesV 64 g) 5 (0, 0))) (hlo : lo ≤ b) : Sl w lo (.slice (some ⟨b, 0, none⟩) 64 64) 64 (byte g) :=
  .inr ⟨b, 0, 64, rfl, hlo, (Array.getElem?_eq_some_iff.1 h).1, Nat.le_refl _, by unfold maxLen; omega, fun j hj => by rw [Nat.zero_add, cell_of_row _ _ _ _ _ _ h, bytesV_get hj]; rfl,
    fun j _ => frozen_of_row _ _ _ _ _ h, fun j hj => by rw [Nat.zero_add, cell_of_row _ _ _ _ _ _ h, bytesV_get hj]; rfl⟩

theorem Tw.xy {w3 wr : World} {K : Nat → Int} (h : Tw w3 wr K 64) : Xy w3.heap.size w3 wr (.slice (some ⟨w3.heap.size, 0, none⟩) 64 64) (.slice (some ⟨w3.heap.size + 1, 0, none⟩) 64 64) 64 64 (turned K 54) (turned K 92) := by
  refine ⟨(row_sl h.x (Nat.le_refl _)).congr (fun j hj => ?_), (row_sl h.y (by omega)).congr (fun j hj => ?_), fun b hb e => ?_, h.below, h.below.size⟩
  · unfold byte tz; rw [if_pos hj]
  · unfold byte tz; rw [if_pos hj]
  · have h1 : w3.heap.size = b := by simpa [Value.ownBlock] using hb
    have h2 : w3.heap.size + 1 = b := by simpa [Value.ownBlock] using e
    omega

set_option maxHeartbeats 1000000 in
set_option maxRecDepth 100000 in
theorem lawTwice (kv x : Value) (klen len : Nat) (kf f : Nat → Int) (w : World) (hkx : Rx w kv klen kf) (hx : Rx w x len f) (hklen : klen ≤ 140737488351232) (hlen : len ≤ 140737488351232)
    (hk0 : ∀ j, 0 ≤ kf j) (hk1 : ∀ j, kf j ≤ 255) (hf0 : ∀ j, 0 ≤ f j) (hf1 : ∀ j, f j ≤ 255) (hK : K0 w) :
    Calls Tryd.prog 6 #[kv, x] w fun e w' => e = .returned (.bool true) ∧ Below w.heap.size w w' := by
  obtain ⟨ka, kcap, rfl⟩ := hkx.form
  obtain ⟨xa, xcap, rfl⟩ := hx.form
  obtain ⟨i5, hi5, hz0, hz1, hz2⟩ := info_parts info5
  have HKX := Lib.hid hkx; have HX := Lib.hid hx; have HF0 := Lib.hid hf0; have HF1 := Lib.hid hf1; have HK0 := Lib.hid hk0; have HK1 := Lib.hid hk1; have HK := Lib.hid hK
  have HI5 := Lib.hid hi5; have HZ0 := Lib.hid hz0; have HZ1 := Lib.hid hz1; have HZ2 := Lib.hid hz2
  clear hkx hx hf0 hf1 hk0 hk1 hK hi5 hz0 hz1 hz2
  have hi : ∀ f, (Tryd.prog.info? 25).map (·.size) = some (bytesV 32 f).size := fun f => by rw [bytesV_size]; exact info25
  have HI := Lib.hid hi
  clear hi
  by_cases hk64 : klen ≤ 64
  case pos =>
    go_enter Tryd.func6, Tryd.ntmps6
    go_wp2_with fail
    refine (shown7 w HK.out).mono ?_
    rintro e w1 ⟨rfl, hb1⟩
    have hsrc : Src Tryd.prog 1 22 (.slice ka klen kcap) klen (cellsOf klen (byte kf)) (w1.alloc (.cells #[] 5)) := ((HKX.out.below hb1).below ((Below.refl _ _).alloc (Nat.le_refl _) _)).src
    have HSRC := Lib.hid hsrc; have HB1 := Lib.hid hb1
    have hz1' := hb1.size
    clear hsrc hb1
    have hd : decide (64 < (klen : Int)) = false := by simp; omega
    have xmk := make64
    go_wp2_with (at_builtin; refine wpList_append_sl (lo := w1.heap.size) (m := 0) (n := klen) (r := byte (keyF kf klen)) (q := byte kf) (v := .slice (some ⟨w1.heap.size, 0, none⟩) 0 0) (x := .slice ka klen kcap) rfl _ _ 22 22 rfl 5 i5 (.int .u8 0) 1 Tryd.underlying22 HI5.out HZ0.out rfl HZ1.out HZ2.out rfl rfl (Sl.empty _ _ _ _ _ (Nat.le_refl _) (by simp)) HSRC.out (fun j _ => byte_one _ j) (by simp) (by omega) (by omega) ?_; intro v3 w3 hs3 hg3 _; have hs3' := own_copy (B := w1.heap.size) hs3 hg3 (fun j hj => show kf j = keyF kf klen j by unfold keyF; rw [if_pos hk64, if_pos hj]) (Nat.le_refl _); obtain ⟨a3, cap3, rfl⟩ := hs3'.1.form; have HS3 := Lib.hid hs3'; clear hs3 hs3' hg3)
    have hbx : Below w.heap.size w w3 := HB1.out.trans (HS3.out.2.mono hz1')
    have hks : Rx w3 (.slice a3 klen cap3) klen (keyF kf klen) := HS3.out.1.rx
    have HBX := Lib.hid hbx; have HKS := Lib.hid hks
    clear hbx hks HS3 HB1 HSRC
    have hKz : ∀ j, klen ≤ j → keyF kf klen j = 0 := fun j hj => by unfold keyF; rw [if_pos hk64, if_neg (by omega)]
    have hmac : ∀ w0, Rx w0 (.slice ka klen kcap) klen kf → Rx w0 (.slice xa len xcap) len f → K0 w0 → Calls Tryd.prog 10 #[.slice ka klen kcap, .slice xa len xcap] w0 fun e w' => e = .returned (.agg (bytesV 32 (macB (keyF kf klen) f len))) ∧ Below w0.heap.size w0 w' := fun w0 h1 h2 h3 =>
      mac10 (.slice ka klen kcap) (.slice xa len xcap) klen len kf f w0 h1 h2 (by omega) (by omega) HK0.out HK1.out HF0.out HF1.out h3
    have hcat := macB_cat (keyF kf klen) f len
    generalize macB (keyF kf klen) f len = M at hmac hcat
    generalize keyF kf klen = K at *
    have HKZ := Lib.hid hKz; have HMAC := Lib.hid hmac; have HCAT := Lib.hid hcat
    clear hKz hmac hcat
    have htw : Tw w3 ((w3.alloc (.cells (bytesV 64 (fun _ => 0)) 5)).alloc (.cells (bytesV 64 (fun _ => 0)) 5)) K 0 :=
      ⟨(heap_alloc2_old w3 _ _).trans (by rw [bytesV_congr (fun j _ => show tz K 54 0 j = 0 from if_neg (by omega))]), (heap_alloc2_new w3 _ _).trans (by rw [bytesV_congr (fun j _ => show tz K 92 0 j = 0 from if_neg (by omega))]), ((Below.refl _ _).alloc (Nat.le_refl _) _).alloc (by simp) _⟩
    go_loopw [10, 11] (fun c _ wr => ∃ i : Nat, i ≤ 64 ∧ c = .int .i64 i ∧ Tw w3 wr K i) (fun c _ _ => 64 - (intOf c).toNat)
    case atStart => exact ⟨0, by omega, rfl, htw⟩
    case round =>
      clear htw
      obtain ⟨i, hi, rfl, ht⟩ := hrel
      by_cases hi64 : i < 64
      · have i64 : (i : Int) < 64 := by omega
        have ca : wr.cell? ⟨w3.heap.size, i, none⟩ = some (.int .u8 (tz K 54 i i)) := by rw [cell_of_row wr _ _ _ _ _ ht.x, bytesV_get hi64]
        have fa : wr.frozen? ⟨w3.heap.size, i, none⟩ = false := frozen_of_row wr _ _ _ _ ht.x
        have cb : wr.cell? ⟨w3.heap.size + 1, i, none⟩ = some (.int .u8 (tz K 92 i i)) := by rw [cell_of_row wr _ _ _ _ _ ht.y, bytesV_get hi64]
        have fb : wr.frozen? ⟨w3.heap.size + 1, i, none⟩ = false := frozen_of_row wr _ _ _ _ ht.y
        by_cases hin : i < klen
        · have hb : decide ((i : Int) < (klen : Int)) = true := by simp; omega
          obtain ⟨g, off, rfl, hg, hkc⟩ : ∃ g off, a3 = some ⟨g, off, none⟩ ∧ g < w3.heap.size ∧ ∀ j, j < klen → w3.cell? ⟨g, off + j, none⟩ = some (byte K j) := by
            rcases HKS.out with ⟨h1, h2⟩ | ⟨g, off, cap, h1, h2, h3⟩
            · omega
            · simp only [Value.slice.injEq] at h1
              obtain ⟨rfl, _, _⟩ := h1
              exact ⟨g, off, rfl, h2, h3⟩
          have ck : wr.cell? ⟨g, off + i, none⟩ = some (.int .u8 (K i)) := (ht.below.cell (p := ⟨g, off + i, none⟩) hg).trans (hkc i hin)
          have HT := Lib.hid ht
          clear ht hkc
          have hin' : (i : Int) < (klen : Int) := by omega
          go_wp2
          exact ⟨⟨i + 1, by omega, by go_num, HT.out.step _ _ rfl rfl⟩, by simp [intOf]; omega⟩
        · have hb : decide ((i : Int) < (klen : Int)) = false := by simp; omega
          have hz : K i = 0 := HKZ.out i (by omega)
          have HT := Lib.hid ht; have HZ := Lib.hid hz
          clear ht hz
          go_wp2
          exact ⟨⟨i + 1, by omega, by go_num, HT.out.step _ _ (by unfold turned; rw [HZ.out]) (by unfold turned; rw [HZ.out])⟩, by simp [intOf]; omega⟩
      · have ei : i = 64 := by omega
        subst ei
        simp only [Int.cast_ofNat_Int]
        have hxy := ht.xy
        have hbw : Below w.heap.size w wr := HBX.out.trans (ht.below.mono HBX.out.size)
        have HXY := Lib.hid hxy; have HBW := Lib.hid hbw
        have hle := hxy.le
        have hsx : Src Tryd.prog 1 22 (.slice xa len xcap) len (cellsOf len (byte f)) wr := (HX.out.below hbw).src
        have HSX := Lib.hid hsx
        have hX0 : ∀ j, 0 ≤ cat64 (turned K 54) f j := fun j => cat64_nonneg (fun _ => (bits_u8 _ _ _).1) HF0.out j
        have hX1 : ∀ j, cat64 (turned K 54) f j ≤ 255 := fun j => cat64_le (fun _ => (bits_u8 _ _ _).2) HF1.out j
        have HX0 := Lib.hid hX0; have HX1 := Lib.hid hX1
        clear ht hxy hbw hsx hX0 hX1
        go_wp2_with (at_builtin; refine wpList_append_sl (lo := w3.heap.size) (m := 64) (n := len) (r := byte (turned K 54)) (q := byte f) (v := .slice (some ⟨w3.heap.size, 0, none⟩) 64 64) (x := .slice xa len xcap) rfl _ _ 22 22 rfl 5 i5 (.int .u8 0) 1 Tryd.underlying22 HI5.out HZ0.out rfl HZ1.out HZ2.out rfl rfl HXY.out.slx HSX.out (fun j _ => byte_one _ j) hle (by omega) (by omega) ?_; intro v5 w5 hs5 hg5 ho5; have hxy5 := HXY.out.grown (hs5.congr (fun j _ => joined_cat _ _ j)) hg5 (own_or ho5); have HXY5 := Lib.hid hxy5; clear hs5 hg5 ho5 hxy5)
        have hb5 : Below w.heap.size w w5 := HBX.out.trans (HXY5.out.below.mono HBX.out.size)
        refine (sum8 v5 (64 + len) (cat64 (turned K 54) f) w5 HXY5.out.slx.rx (by omega) HX0.out HX1.out (HK.out.below hb5)).mono ?_
        rintro e wb ⟨rfl, hbb⟩
        have hinn := sumF_bd (cat64 (turned K 54) f) (64 + len)
        have hcat2 := HCAT.out
        generalize sumF (cat64 (turned K 54) f) (64 + len) = inn at *
        have hxy6 := (HXY5.out.after hbb).after (newRow32_below wb inn)
        have hle6 := hxy6.le
        have hs6 : Src Tryd.prog 1 22 (.slice (some ⟨wb.heap.size, 0, none⟩) 32 32) 32 (cellsOf 32 (byte inn)) (newRow32 wb inn) := (newRow32_rx wb inn).src
        have hb6 : Below w.heap.size w (newRow32 wb inn) := HBX.out.trans (hxy6.below.mono HBX.out.size)
        have HXY6 := Lib.hid hxy6; have HS6 := Lib.hid hs6; have HINN := Lib.hid hinn; have HCAT2 := Lib.hid hcat2; have HB6 := Lib.hid hb6
        clear hb5 hbb hinn hcat2 hxy6 hs6 hb6 HXY5 HXY HSX HX0 HX1
        have hcalls : ∀ v8 w8, Xy w3.heap.size w3 w8 v8 v5 (64 + 32) (64 + len) (cat64 (turned K 92) inn) (cat64 (turned K 54) f) → Calls Tryd.prog 8 #[v8] w8 fun e w' => e = .returned (.agg (bytesV 32 M)) ∧ Below w8.heap.size w8 w' := fun v8 w8 h => by
          rw [← HCAT2.out]
          exact sum8 v8 (64 + 32) (cat64 (turned K 92) inn) w8 h.slx.rx (by omega) (cat64_nonneg (fun _ => (bits_u8 _ _ _).1) (fun j => (HINN.out j).1)) (cat64_le (fun _ => (bits_u8 _ _ _).2) (fun j => (HINN.out j).2)) (HK.out.below (HBX.out.trans (h.below.mono HBX.out.size)))
        have HCALLS := Lib.hid hcalls
        clear hcalls
        go_wp2_with (first | (refine wpList_store_row rfl 25 _ _ rfl wb.heap.size (bytesV 32 inn) rfl rfl 25 (bytesV 32 (fun _ => 0)) (heap_alloc_new wb _) (HI.out _) (by rw [bytesV_size, bytesV_size]) (bytesV_one _ _) ?_; change wpList _ _ _ _ _ (newRow32 wb inn)) | (at_builtin; refine wpList_append_slw (lo := w3.heap.size) (m := 64) (n := 32) (r := byte (turned K 92)) (q := byte inn) (v := .slice (some ⟨w3.heap.size + 1, 0, none⟩) 64 64) (x := .slice (some ⟨wb.heap.size, 0, none⟩) 32 32) rfl _ _ 22 22 rfl 5 i5 (.int .u8 0) 1 Tryd.underlying22 HI5.out HZ0.out rfl HZ1.out HZ2.out rfl rfl HXY6.out.sly HS6.out (fun j _ => byte_one _ j) hle6 (by omega) (by omega) ?_; intro v8 w8 hs8 hg8 ho8; have hxy8 := HXY6.out.flip.grown (hs8.congr (fun j _ => joined_cat _ _ j)) hg8 (own_or ho8); have HXY8 := Lib.hid hxy8; clear hs8 hg8 ho8 hxy8))
        refine (HCALLS.out _ _ HXY8.out).mono ?_
        rintro e w9 ⟨rfl, hb9⟩
        have hb9' : Below w.heap.size w w9 := HBX.out.trans ((HXY8.out.after hb9).below.mono HBX.out.size)
        have HB9 := Lib.hid hb9'
        clear hb9 hb9'
        go_wp2_with fail
        refine (HMAC.out w9 (HKX.out.below HB9.out) (HX.out.below HB9.out) (HK.out.below HB9.out)).mono ?_
        rintro e w10 ⟨rfl, hb10⟩
        have hfin : Below w.heap.size w w10 := HB9.out.trans (hb10.mono HB9.out.size)
        have HFIN := Lib.hid hfin
        clear hb10 hfin
        go_wp2_with (refine wpList_eq25 rfl _ _ _ rfl M rfl rfl ?_)
        go_ret
        exact ⟨rfl, HFIN.out⟩
  case neg =>
    go_enter Tryd.func6, Tryd.ntmps6
    go_wp2_with fail
    refine (shown7 w HK.out).mono ?_
    rintro e w1 ⟨rfl, hb1⟩
    have hsrc : Src Tryd.prog 1 22 (.slice ka klen kcap) klen (cellsOf klen (byte kf)) (w1.alloc (.cells #[] 5)) := ((HKX.out.below hb1).below ((Below.refl _ _).alloc (Nat.le_refl _) _)).src
    have HSRC := Lib.hid hsrc; have HB1 := Lib.hid hb1
    have hz1' := hb1.size
    clear hsrc hb1
    have hd : decide (64 < (klen : Int)) = true := by simp; omega
    have xmk := make64
    go_wp2_with (at_builtin; refine wpList_append_sl (lo := w1.heap.size) (m := 0) (n := klen) (r := byte kf) (q := byte kf) (v := .slice (some ⟨w1.heap.size, 0, none⟩) 0 0) (x := .slice ka klen kcap) rfl _ _ 22 22 rfl 5 i5 (.int .u8 0) 1 Tryd.underlying22 HI5.out HZ0.out rfl HZ1.out HZ2.out rfl rfl (Sl.empty _ _ _ _ _ (Nat.le_refl _) (by simp)) HSRC.out (fun j _ => byte_one _ j) (by simp) (by omega) (by omega) ?_; intro v2 w2 hs2 hg2 _; have hs2' := own_copy (B := w1.heap.size) hs2 hg2 (fun j _ => rfl) (Nat.le_refl _); obtain ⟨a2, cap2, rfl⟩ := hs2'.1.form; have HS2 := Lib.hid hs2'; clear hs2 hs2' hg2)
    have hb2 : Below w.heap.size w w2 := HB1.out.trans (HS2.out.2.mono hz1')
    refine (sum8 (.slice a2 klen cap2) klen kf _ HS2.out.1.rx (by omega) HK0.out HK1.out (HK.out.below hb2)).mono ?_
    rintro e wa ⟨rfl, hba⟩
    have hbc : Below w.heap.size w (newRow32 wa (sumF kf klen)) := (hb2.trans (hba.mono hb2.size)).trans ((newRow32_below wa _).mono (by have := hb2.size; have := hba.size; omega))
    have HBC := Lib.hid hbc
    have hzc := hbc.size
    have hsrc2 : Src Tryd.prog 1 22 (.slice (some ⟨wa.heap.size, 0, none⟩) 32 32) 32 (cellsOf 32 (byte (sumF kf klen))) ((newRow32 wa (sumF kf klen)).alloc (.cells #[] 5)) :=
      ((newRow32_rx wa (sumF kf klen)).below ((Below.refl _ _).alloc (Nat.le_refl _) _)).src
    have HSRC2 := Lib.hid hsrc2
    clear hsrc2 hb2 hba hbc HS2 HB1 HSRC
    go_wp2_with (first | (refine wpList_store_row rfl 25 _ _ rfl wa.heap.size (bytesV 32 (sumF kf klen)) rfl rfl 25 (bytesV 32 (fun _ => 0)) (heap_alloc_new wa _) (HI.out _) (by rw [bytesV_size, bytesV_size]) (bytesV_one _ _) ?_; change wpList _ _ _ _ _ (newRow32 wa (sumF kf klen))) | (at_builtin; refine wpList_append_sl (lo := (newRow32 wa (sumF kf klen)).heap.size) (m := 0) (n := 32) (r := byte (keyF kf klen)) (q := byte (sumF kf klen)) (v := .slice (some ⟨(newRow32 wa (sumF kf klen)).heap.size, 0, none⟩) 0 0) (x := .slice (some ⟨wa.heap.size, 0, none⟩) 32 32) rfl _ _ 22 22 rfl 5 i5 (.int .u8 0) 1 Tryd.underlying22 HI5.out HZ0.out rfl HZ1.out HZ2.out rfl rfl (Sl.empty _ _ _ _ _ (Nat.le_refl _) (by simp)) HSRC2.out (fun j _ => byte_one _ j) (by simp) (by omega) (by omega) ?_; intro v3 w3 hs3 hg3 _; have hs3' := own_copy hs3 hg3 (fun j hj => show sumF kf klen j = keyF kf klen j by unfold keyF; rw [if_neg hk64, if_pos hj]) hzc; obtain ⟨a3, cap3, rfl⟩ := hs3'.1.form; have HS3 := Lib.hid hs3'; clear hs3 hs3' hg3))
    have hbx : Below w.heap.size w w3 := HBC.out.trans (HS3.out.2.mono hzc)
    have hks : Rx w3 (.slice a3 32 cap3) 32 (keyF kf klen) := HS3.out.1.rx
    have HBX := Lib.hid hbx; have HKS := Lib.hid hks
    clear hbx hks HS3 HBC HSRC2
    have hKz : ∀ j, 32 ≤ j → keyF kf klen j = 0 := fun j hj => by unfold keyF; rw [if_neg hk64, if_neg (by omega)]
    have hmac : ∀ w0, Rx w0 (.slice ka klen kcap) klen kf → Rx w0 (.slice xa len xcap) len f → K0 w0 → Calls Tryd.prog 10 #[.slice ka klen kcap, .slice xa len xcap] w0 fun e w' => e = .returned (.agg (bytesV 32 (macB (keyF kf klen) f len))) ∧ Below w0.heap.size w0 w' := fun w0 h1 h2 h3 =>
      mac10 (.slice ka klen kcap) (.slice xa len xcap) klen len kf f w0 h1 h2 (by omega) (by omega) HK0.out HK1.out HF0.out HF1.out h3
    have hcat := macB_cat (keyF kf klen) f len
    generalize macB (keyF kf klen) f len = M at hmac hcat
    generalize keyF kf klen = K at *
    have HKZ := Lib.hid hKz; have HMAC := Lib.hid hmac; have HCAT := Lib.hid hcat
    clear hKz hmac hcat
    have htw : Tw w3 ((w3.alloc (.cells (bytesV 64 (fun _ => 0)) 5)).alloc (.cells (bytesV 64 (fun _ => 0)) 5)) K 0 :=
      ⟨(heap_alloc2_old w3 _ _).trans (by rw [bytesV_congr (fun j _ => show tz K 54 0 j = 0 from if_neg (by omega))]), (heap_alloc2_new w3 _ _).trans (by rw [bytesV_congr (fun j _ => show tz K 92 0 j = 0 from if_neg (by omega))]), ((Below.refl _ _).alloc (Nat.le_refl _) _).alloc (by simp) _⟩
    go_loopw [10, 11] (fun c _ wr => ∃ i : Nat, i ≤ 64 ∧ c = .int .i64 i ∧ Tw w3 wr K i) (fun c _ _ => 64 - (intOf c).toNat)
    case atStart => exact ⟨0, by omega, rfl, htw⟩
    case round =>
      clear htw
      obtain ⟨i, hi, rfl, ht⟩ := hrel
      by_cases hi64 : i < 64
      · have i64 : (i : Int) < 64 := by omega
        have ca : wr.cell? ⟨w3.heap.size, i, none⟩ = some (.int .u8 (tz K 54 i i)) := by rw [cell_of_row wr _ _ _ _ _ ht.x, bytesV_get hi64]
        have fa : wr.frozen? ⟨w3.heap.size, i, none⟩ = false := frozen_of_row wr _ _ _ _ ht.x
        have cb : wr.cell? ⟨w3.heap.size + 1, i, none⟩ = some (.int .u8 (tz K 92 i i)) := by rw [cell_of_row wr _ _ _ _ _ ht.y, bytesV_get hi64]
        have fb : wr.frozen? ⟨w3.heap.size + 1, i, none⟩ = false := frozen_of_row wr _ _ _ _ ht.y
        by_cases hin : i < 32
        · have hb : decide ((i : Int) < 32) = true := by simp; omega
          obtain ⟨g, off, rfl, hg, hkc⟩ : ∃ g off, a3 = some ⟨g, off, none⟩ ∧ g < w3.heap.size ∧ ∀ j, j < 32 → w3.cell? ⟨g, off + j, none⟩ = some (byte K j) := by
            rcases HKS.out with ⟨h1, h2⟩ | ⟨g, off, cap, h1, h2, h3⟩
            · omega
            · simp only [Value.slice.injEq] at h1
              obtain ⟨rfl, _, _⟩ := h1
              exact ⟨g, off, rfl, h2, h3⟩
          have ck : wr.cell? ⟨g, off + i, none⟩ = some (.int .u8 (K i)) := (ht.below.cell (p := ⟨g, off + i, none⟩) hg).trans (hkc i hin)
          have HT := Lib.hid ht
          clear ht hkc
          have hin' : (i : Int) < 32 := by omega
          go_wp2
          exact ⟨⟨i + 1, by omega, by go_num, HT.out.step _ _ rfl rfl⟩, by simp [intOf]; omega⟩
        · have hb : decide ((i : Int) < 32) = false := by simp; omega
          have hz : K i = 0 := HKZ.out i (by omega)
          have HT := Lib.hid ht; have HZ := Lib.hid hz
          clear ht hz
          go_wp2
          exact ⟨⟨i + 1, by omega, by go_num, HT.out.step _ _ (by unfold turned; rw [HZ.out]) (by unfold turned; rw [HZ.out])⟩, by simp [intOf]; omega⟩
      · have ei : i = 64 := by omega
        subst ei
        simp only [Int.cast_ofNat_Int]
        have hxy := ht.xy
        have hbw : Below w.heap.size w wr := HBX.out.trans (ht.below.mono HBX.out.size)
        have HXY := Lib.hid hxy; have HBW := Lib.hid hbw
        have hle := hxy.le
        have hsx : Src Tryd.prog 1 22 (.slice xa len xcap) len (cellsOf len (byte f)) wr := (HX.out.below hbw).src
        have HSX := Lib.hid hsx
        have hX0 : ∀ j, 0 ≤ cat64 (turned K 54) f j := fun j => cat64_nonneg (fun _ => (bits_u8 _ _ _).1) HF0.out j
        have hX1 : ∀ j, cat64 (turned K 54) f j ≤ 255 := fun j => cat64_le (fun _ => (bits_u8 _ _ _).2) HF1.out j
        have HX0 := Lib.hid hX0; have HX1 := Lib.hid hX1
        clear ht hxy hbw hsx hX0 hX1
        go_wp2_with (at_builtin; refine wpList_append_sl (lo := w3.heap.size) (m := 64) (n := len) (r := byte (turned K 54)) (q := byte f) (v := .slice (some ⟨w3.heap.size, 0, none⟩) 64 64) (x := .slice xa len xcap) rfl _ _ 22 22 rfl 5 i5 (.int .u8 0) 1 Tryd.underlying22 HI5.out HZ0.out rfl HZ1.out HZ2.out rfl rfl HXY.out.slx HSX.out (fun j _ => byte_one _ j) hle (by omega) (by omega) ?_; intro v5 w5 hs5 hg5 ho5; have hxy5 := HXY.out.grown (hs5.congr (fun j _ => joined_cat _ _ j)) hg5 (own_or ho5); have HXY5 := Lib.hid hxy5; clear hs5 hg5 ho5 hxy5)
        have hb5 : Below w.heap.size w w5 := HBX.out.trans (HXY5.out.below.mono HBX.out.size)
        refine (sum8 v5 (64 + len) (cat64 (turned K 54) f) w5 HXY5.out.slx.rx (by omega) HX0.out HX1.out (HK.out.below hb5)).mono ?_
        rintro e wb ⟨rfl, hbb⟩
        have hinn := sumF_bd (cat64 (turned K 54) f) (64 + len)
        have hcat2 := HCAT.out
        generalize sumF (cat64 (turned K 54) f) (64 + len) = inn at *
        have hxy6 := (HXY5.out.after hbb).after (newRow32_below wb inn)
        have hle6 := hxy6.le
        have hs6 : Src Tryd.prog 1 22 (.slice (some ⟨wb.heap.size, 0, none⟩) 32 32) 32 (cellsOf 32 (byte inn)) (newRow32 wb inn) := (newRow32_rx wb inn).src
        have hb6 : Below w.heap.size w (newRow32 wb inn) := HBX.out.trans (hxy6.below.mono HBX.out.size)
        have HXY6 := Lib.hid hxy6; have HS6 := Lib.hid hs6; have HINN := Lib.hid hinn; have HCAT2 := Lib.hid hcat2; have HB6 := Lib.hid hb6
        clear hb5 hbb hinn hcat2 hxy6 hs6 hb6 HXY5 HXY HSX HX0 HX1
        have hcalls : ∀ v8 w8, Xy w3.heap.size w3 w8 v8 v5 (64 + 32) (64 + len) (cat64 (turned K 92) inn) (cat64 (turned K 54) f) → Calls Tryd.prog 8 #[v8] w8 fun e w' => e = .returned (.agg (bytesV 32 M)) ∧ Below w8.heap.size w8 w' := fun v8 w8 h => by
          rw [← HCAT2.out]
          exact sum8 v8 (64 + 32) (cat64 (turned K 92) inn) w8 h.slx.rx (by omega) (cat64_nonneg (fun _ => (bits_u8 _ _ _).1) (fun j => (HINN.out j).1)) (cat64_le (fun _ => (bits_u8 _ _ _).2) (fun j => (HINN.out j).2)) (HK.out.below (HBX.out.trans (h.below.mono HBX.out.size)))
        have HCALLS := Lib.hid hcalls
        clear hcalls
        go_wp2_with (first | (refine wpList_store_row rfl 25 _ _ rfl wb.heap.size (bytesV 32 inn) rfl rfl 25 (bytesV 32 (fun _ => 0)) (heap_alloc_new wb _) (HI.out _) (by rw [bytesV_size, bytesV_size]) (bytesV_one _ _) ?_; change wpList _ _ _ _ _ (newRow32 wb inn)) | (at_builtin; refine wpList_append_slw (lo := w3.heap.size) (m := 64) (n := 32) (r := byte (turned K 92)) (q := byte inn) (v := .slice (some ⟨w3.heap.size + 1, 0, none⟩) 64 64) (x := .slice (some ⟨wb.heap.size, 0, none⟩) 32 32) rfl _ _ 22 22 rfl 5 i5 (.int .u8 0) 1 Tryd.underlying22 HI5.out HZ0.out rfl HZ1.out HZ2.out rfl rfl HXY6.out.sly HS6.out (fun j _ => byte_one _ j) hle6 (by omega) (by omega) ?_; intro v8 w8 hs8 hg8 ho8; have hxy8 := HXY6.out.flip.grown (hs8.congr (fun j _ => joined_cat _ _ j)) hg8 (own_or ho8); have HXY8 := Lib.hid hxy8; clear hs8 hg8 ho8 hxy8))
        refine (HCALLS.out _ _ HXY8.out).mono ?_
        rintro e w9 ⟨rfl, hb9⟩
        have hb9' : Below w.heap.size w w9 := HBX.out.trans ((HXY8.out.after hb9).below.mono HBX.out.size)
        have HB9 := Lib.hid hb9'
        clear hb9 hb9'
        go_wp2_with fail
        refine (HMAC.out w9 (HKX.out.below HB9.out) (HX.out.below HB9.out) (HK.out.below HB9.out)).mono ?_
        rintro e w10 ⟨rfl, hb10⟩
        have hfin : Below w.heap.size w w10 := HB9.out.trans (hb10.mono HB9.out.size)
        have HFIN := Lib.hid hfin
        clear hb10 hfin
        go_wp2_with (refine wpList_eq25 rfl _ _ _ rfl M rfl rfl ?_)
        go_ret
        exact ⟨rfl, HFIN.out⟩
end Go.Proofs.YtgfkmbdipemgmaaDoor
