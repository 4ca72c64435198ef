/- The walk of the law on keys: it returns true; nothing that was there has changed. -/
import Derived.Test.YtgfkmbdipemgmaaDoorLawMacs
namespace Go.Proofs.YtgfkmbdipemgmaaDoor
open Go Go.RowKit

/-- A key with noughts behind it. -/
def padK (kf : Nat → Int) (n j : Nat) : Int := if j < n then kf j else 0

theorem keyF_padK (kf : Nat → Int) (n m : Nat) (h1 : n ≤ m) (h2 : m ≤ 64) : keyF (padK kf n) m = keyF kf n := by
  funext j
  unfold keyF padK
  rw [if_pos h2, if_pos (show n ≤ 64 by omega)]
  by_cases h : j < m
  · rw [if_pos h]
  · rw [if_neg h, if_neg (show ¬ j < n by omega)]

theorem keyF_sum (kf : Nat → Int) (n : Nat) (h : ¬ n ≤ 64) : keyF (sumF kf n) 32 = keyF kf n := by
  funext j
  unfold keyF
  rw [if_pos (show 32 ≤ 64 by omega), if_neg h]

/-- Two equal rows of 32 bytes, compared in a quiet region. -/
theorem wpQuiet_eq25 {ops : Array Oper} {C : World → Prop} {Q : Act → Prop} {tmps : Array Value} {ds : List Deferred} {o : Oper} {rest : List Oper} {n : Nat} (hw : Region.wanted o (yielded ops tmps) = true) (hd : o.dst = some n) (x y : Operand) (t : TypeId) (ho : o.op = .binOp .eql 25 x y t)
    (F : Nat → Int) (hx : (Act.mk tmps ds).eval x = .agg (bytesV 32 F)) (hy : (Act.mk tmps ds).eval y = .agg (bytesV 32 F)) (h : wpQuiet Tryd.prog ops C Q rest ⟨tmps.setIfInBounds n (.bool true), ds⟩) : wpQuiet Tryd.prog ops C Q (o :: rest) ⟨tmps, ds⟩ :=
  wpQuiet_step fun K hK => by
    rw [if_pos hw]
    refine ⟨.bool true, fun w _ => ?_, ?_⟩
    · unfold Oper.quietAt execOp
      simp only [ho, hx, hy, Sem.run_bind, run_eqGuard_agg (P := Tryd.prog) w .eql 25 x y _ _ guard25, run_eql_struct, eq25, Result.andThen_ok, Sem.run_pure]
      exact ⟨rfl, rfl⟩
    · rw [hd]
      exact hK _ h

set_option maxHeartbeats 1000000 in
set_option maxRecDepth 100000 in
theorem lawKeys (kv x : Value) (klen len : Nat) (kf f : Nat → Int) (more : Int) (w : World) (hkx : Rx w kv klen kf) (hx : Rx w x len f) (hklen : klen ≤ 140737488351232) (hlen : len ≤ 140737488351232)
    (hk0 : ∀ j, 0 ≤ kf j) (hk1 : ∀ j, kf j ≤ 255) (hf0 : ∀ j, 0 ≤ f j) (hf1 : ∀ j, f j ≤ 255) (hK : K0 w) :
    Calls Tryd.prog 5 #[kv, x, .int .i64 more] w fun e w' => e = .returned (.bool true) ∧ Below w.heap.size w w' := by
  obtain ⟨ka, kcap, rfl⟩ := hkx.form
  obtain ⟨xa, xcap, rfl⟩ := hx.form
  have hmac : ∀ (w0 : World) (k' : Value) (n : Nat) (kf' : Nat → Int), Rx w0 k' n kf' → Rx w0 (.slice xa len xcap) len f → n ≤ 140737488355328 → (∀ j, 0 ≤ kf' j) → (∀ j, kf' j ≤ 255) → K0 w0 → keyF kf' n = keyF kf klen →
      Calls Tryd.prog 10 #[k', .slice xa len xcap] w0 fun e w' => e = .returned (.agg (bytesV 32 (macB (keyF kf klen) f len))) ∧ Below w0.heap.size w0 w' := fun w0 k' n kf' h1 h2 h3 h4 h5 h6 h7 => by
    rw [← h7]; exact mac10 k' (.slice xa len xcap) n len kf' f w0 h1 h2 h3 (by omega) h4 h5 hf0 hf1 h6
  generalize macB (keyF kf klen) f len = M at hmac
  have HX := Lib.hid hx; have HKX := Lib.hid hkx; have HK := Lib.hid hK; have HK0 := Lib.hid hk0; have HK1 := Lib.hid hk1; have HMAC := Lib.hid hmac
  clear hx hkx hf0 hf1 hk0 hk1 hK hmac
  have hi : ∀ f, (Tryd.prog.info? 25).map (·.size) = some (bytesV 32 f).size := fun f => by rw [bytesV_size]; exact info25
  have HI := Lib.hid hi
  clear hi
  go_enter Tryd.func5, Tryd.ntmps5
  go_wp2_with fail
  refine (shown7 w HK.out).mono ?_
  rintro e w1 ⟨rfl, hb1⟩
  have HB1 := Lib.hid hb1
  clear hb1
  by_cases hmore : more < 0
  have hdm : decide (more < 0) = true := by simp [hmore]
  obtain ⟨R, hR⟩ : ∃ R : Int, (wrap64 (-wrap64 (more + 1))).tmod 65 = R := ⟨_, rfl⟩
  go_wp2_with fail
  rotate_left
  have hdm : decide (more < 0) = false := by simp; omega
  obtain ⟨R, hR⟩ : ∃ R : Int, more % 65 = R := ⟨_, rfl⟩
  go_wp2_with fail
  all_goals
    refine (HMAC.out w1 (.slice ka klen kcap) klen kf (HKX.out.below HB1.out) (HX.out.below HB1.out) (by omega) HK0.out HK1.out (HK.out.below HB1.out) rfl).mono ?_
    rintro e w2 ⟨rfl, hb2⟩
    have hb2' : Below w.heap.size w w2 := HB1.out.trans (hb2.mono HB1.out.size)
    have hb3 : Below w.heap.size w (newRow32 w2 M) := hb2'.trans ((newRow32_below w2 M).mono hb2'.size)
    have hr3 := newRow32_row w2 M
    have hz3 : w2.heap.size < (newRow32 w2 M).heap.size := (Array.getElem?_eq_some_iff.1 hr3).1
    have HB3 := Lib.hid hb3; have HR3 := Lib.hid hr3
    clear hb2 hb2' hb3 hr3 HB1
    by_cases hk64 : klen ≤ 64
    · have hd : decide (64 < (klen : Int)) = false := by simp; omega
      have hsrc : Src Tryd.prog 1 22 (.slice ka klen kcap) klen (cellsOf klen (byte kf)) ((newRow32 w2 M).alloc (.cells #[] 5)) := ((HKX.out.below HB3.out).below ((Below.refl _ _).alloc (Nat.le_refl _) _)).src
      have HSRC := Lib.hid hsrc
      clear hsrc
      obtain ⟨i5, hi5, hz0, hz1, hz2⟩ := info_parts info5
      have HI5 := Lib.hid hi5; have HZ0 := Lib.hid hz0; have HZ1 := Lib.hid hz1; have HZ2 := Lib.hid hz2
      clear hi5 hz0 hz1 hz2
      go_wp2_with (first | (refine wpList_store_row rfl 25 _ _ rfl w2.heap.size (bytesV 32 M) rfl rfl 25 (bytesV 32 (fun _ => 0)) (heap_alloc_new w2 _) (HI.out _) (by rw [bytesV_size, bytesV_size]) (bytesV_one _ _) ?_; change wpList _ _ _ _ _ (newRow32 w2 M)) | (at_builtin; refine wpList_append_sl (lo := (newRow32 w2 M).heap.size) (m := 0) (n := klen) (r := byte (padK kf klen)) (q := byte kf) (v := .slice (some ⟨(newRow32 w2 M).heap.size, 0, none⟩) 0 0) (x := .slice ka klen kcap) rfl _ _ 22 22 rfl 5 i5 (.int .u8 0) 1 Tryd.underlying22 HI5.out HZ0.out rfl HZ1.out HZ2.out rfl rfl (Sl.empty _ _ _ _ _ (Nat.le_refl _) (by simp)) HSRC.out (fun j _ => byte_one _ j) (by simp) (by omega) (by omega) ?_; intro v4 w4 hs4 hg4 _; have hs4' := own_copy (B := (newRow32 w2 M).heap.size) hs4 hg4 (fun j hj => show kf j = padK kf klen j by unfold padK; rw [if_pos hj]) (Nat.le_refl _); obtain ⟨a4, cap4, rfl⟩ := hs4'.1.form; have HS4 := Lib.hid hs4'; clear hs4 hs4' hg4))
      generalize newRow32 w2 M = w3 at *
      have hkf : ∀ L, klen ≤ L → L ≤ 64 → keyF (padK kf klen) L = keyF kf klen := fun L h1 h2 => keyF_padK kf klen L h1 h2
      have hpad : ∀ L, klen ≤ L → padK kf klen L = 0 := fun L h => by unfold padK; rw [if_neg (by omega)]
      have hp0 : ∀ j, 0 ≤ padK kf klen j := fun j => by unfold padK; split; exact HK0.out j; omega
      have hp1 : ∀ j, padK kf klen j ≤ 255 := fun j => by unfold padK; split; exact HK1.out j; omega
      have HKF := Lib.hid hkf; have HPAD := Lib.hid hpad; have HP0 := Lib.hid hp0; have HP1 := Lib.hid hp1
      clear hkf hpad hp0 hp1
      go_loopg [10, 11] (64 - klen) (fun k v c wr => ∃ L i : Nat, L + k = 64 ∧ klen ≤ L ∧ i ≤ 64 ∧ i ≤ L ∧ c = .int .i64 (i : Int) ∧ Sl wr w3.heap.size v L (byte (padK kf klen)) ∧ Below w3.heap.size w3 wr)
      case atStart => exact ⟨klen, 0, by omega, by omega, by omega, by omega, rfl, HS4.out.1, HS4.out.2⟩
      case round =>
        obtain ⟨L, i, hL, hL0, hi, hiL, rfl, hsl, hbl⟩ := hrel
        obtain ⟨ra, rcap, rfl⟩ := hsl.form
        have hsz := hbl.size
        have HSL := Lib.hid hsl; have HBL := Lib.hid hbl
        clear hsl hbl
        by_cases hc : (i : Int) < R ∧ (L : Int) < 64
        · have hb1 : decide ((i : Int) < R) = true := by simp [hc.1]
          have hb2 : decide ((L : Int) < 64) = true := by simp [hc.2]
          have he : (0 : Int) = padK kf klen L := (HPAD.out L hL0).symm
          have HE := Lib.hid he; have HCC := Lib.hid hc
          clear he hc
          go_wp2_with (at_builtin; refine wpList_append_byte (lo := w3.heap.size) (w1 := w3) (m := L) (v := .slice ra L rcap) (e := padK kf klen) rfl _ _ rfl rfl rfl HSL.out HBL.out HE.out (by omega) hsz ?_; intro v5 w5 hs5 hb5 hz5; have HS5 := Lib.hid hs5; have HB5 := Lib.hid hb5; clear hs5 hb5 hz5)
          go_roundg (gk - 1)
          case measure => have := HCC.out.2; omega
          case rel => exact ⟨L + 1, i + 1, by have := HCC.out.2; omega, by omega, by have := HCC.out.2; omega, by omega, by go_num, HS5.out, HB5.out⟩
        · have hbw : Below w.heap.size w wr := HB3.out.trans (HBL.out.mono HB3.out.size)
          have hr5 : wr.heap[w2.heap.size]? = some (.cells (bytesV 32 M) 25 (0, 0)) := (HBL.out.block _ hz3).trans HR3.out
          have hz5 : w2.heap.size < wr.heap.size := (Array.getElem?_eq_some_iff.1 hr5).1
          have hcl : ∀ e : Ext wr, Calls Tryd.prog 10 #[.slice ra L rcap, .slice xa len xcap] e.val fun y w' => y = .returned (.agg (bytesV 32 M)) ∧ Below e.val.heap.size e.val w' := fun e =>
            HMAC.out e.val _ L (padK kf klen) (HSL.out.rx.below e.below) ((HX.out.below hbw).below e.below) (by omega) HP0.out HP1.out ((HK.out.below hbw).below e.below) (HKF.out L hL0 (by omega))
          have xl : ∀ w', (∃ e : Ext wr, w' = e.val) → w'.heap[w2.heap.size]? = some (.cells (bytesV 32 M) 25 (0, 0)) := fun w' ⟨e, he⟩ => by
            rw [he]; exact (e.below.block _ hz5).trans hr5
          have HC := Lib.hid hcl; have XL := Lib.hid xl; have HBW := Lib.hid hbw
          clear hbw hr5 hcl xl
          by_cases hc1 : (i : Int) < R
          have hb1 : decide ((i : Int) < R) = true := by simp [hc1]
          have hb2 : decide ((L : Int) < 64) = false := by simp; omega
          rotate_left
          have hb1 : decide ((i : Int) < R) = false := by simp; omega
          all_goals
            clear hc
            go_wp2_with fail
            refine wp_region_ext (by kernel_rfl) (by kernel_rfl) ?_
            repeat (go_big_quiet_step (fail))
            go_big_quiet_step (exact Calls.ext_of_below (HC.out _))
            refine wpQuiet_load_row 25 _ rfl rfl rfl w2.heap.size rfl 25 (bytesV 32 M) (0, 0) _ XL.out Tryd.underlying25 rfl (HI.out _) ?_
            simp only [List.setIfInBounds_toArray, List.set_cons_succ, List.set_cons_zero]
            refine wpQuiet_eq25 rfl rfl _ _ _ rfl M rfl rfl ?_
            simp only [List.setIfInBounds_toArray, List.set_cons_succ, List.set_cons_zero]
            repeat (go_big_quiet_step (fail))
            refine wpQuiet_nil ?_
            intro wq hwq
            obtain ⟨e5, rfl⟩ := hwq
            have hfin := HBW.out.trans (e5.below.mono HBW.out.size)
            have HFIN := Lib.hid hfin
            clear hfin
            go_wp2
            go_ret
            exact ⟨rfl, HFIN.out⟩
    · have hd : decide (64 < (klen : Int)) = true := by simp; omega
      go_wp2_with (refine wpList_store_row rfl 25 _ _ rfl w2.heap.size (bytesV 32 M) rfl rfl 25 (bytesV 32 (fun _ => 0)) (heap_alloc_new w2 _) (HI.out _) (by rw [bytesV_size, bytesV_size]) (bytesV_one _ _) ?_; change wpList _ _ _ _ _ (newRow32 w2 M))
      refine (sum8 (.slice ka klen kcap) klen kf (newRow32 w2 M) (HKX.out.below HB3.out) (by omega) HK0.out HK1.out (HK.out.below HB3.out)).mono ?_
      rintro e w4 ⟨rfl, hb4⟩
      have hbd := sumF_bd kf klen
      have hks := keyF_sum kf klen hk64
      generalize sumF kf klen = sk at *
      have hb5 := newRow32_below w4 sk
      have hb35 : Below (newRow32 w2 M).heap.size (newRow32 w2 M) (newRow32 w4 sk) := hb4.trans (hb5.mono hb4.size)
      have hbw : Below w.heap.size w (newRow32 w4 sk) := HB3.out.trans (hb35.mono HB3.out.size)
      have hr5 : (newRow32 w4 sk).heap[w2.heap.size]? = some (.cells (bytesV 32 M) 25 (0, 0)) := (hb35.block _ hz3).trans HR3.out
      have hz5 : w2.heap.size < (newRow32 w4 sk).heap.size := (Array.getElem?_eq_some_iff.1 hr5).1
      have hc : ∀ e : Ext (newRow32 w4 sk), Calls Tryd.prog 10 #[.slice (some ⟨w4.heap.size, 0, none⟩) 32 32, .slice xa len xcap] e.val fun y w' => y = .returned (.agg (bytesV 32 M)) ∧ Below e.val.heap.size e.val w' := fun e =>
        HMAC.out e.val _ 32 sk ((newRow32_rx w4 sk).below e.below) ((HX.out.below hbw).below e.below) (by omega) (fun j => (hbd j).1) (fun j => (hbd j).2) ((HK.out.below hbw).below e.below) hks
      have xl : ∀ w', (∃ e : Ext (newRow32 w4 sk), w' = e.val) → w'.heap[w2.heap.size]? = some (.cells (bytesV 32 M) 25 (0, 0)) := fun w' ⟨e, he⟩ => by
        rw [he]; exact (e.below.block _ hz5).trans hr5
      have HC := Lib.hid hc; have XL := Lib.hid xl; have HBW := Lib.hid hbw
      clear hb4 hbd hks hb5 hb35 hbw hr5 hc xl
      go_wp2_with (refine wpList_store_row rfl 25 _ _ rfl w4.heap.size (bytesV 32 sk) rfl rfl 25 (bytesV 32 (fun _ => 0)) (heap_alloc_new w4 _) (HI.out _) (by rw [bytesV_size, bytesV_size]) (bytesV_one _ _) ?_; change wpList _ _ _ _ _ (newRow32 w4 sk))
      generalize newRow32 w4 sk = w5 at *
      refine wp_region_ext (by kernel_rfl) (by kernel_rfl) ?_
      rw [put_none]
      repeat (go_big_quiet_step (fail))
      go_big_quiet_step (exact Calls.ext_of_below (HC.out _))
      refine wpQuiet_load_row 25 _ rfl rfl rfl w2.heap.size rfl 25 (bytesV 32 M) (0, 0) _ XL.out Tryd.underlying25 rfl (HI.out _) ?_
      simp only [List.setIfInBounds_toArray, List.set_cons_succ, List.set_cons_zero]
      refine wpQuiet_eq25 rfl rfl _ _ _ rfl M rfl rfl ?_
      simp only [List.setIfInBounds_toArray, List.set_cons_succ, List.set_cons_zero]
      repeat (go_big_quiet_step (fail))
      refine wpQuiet_nil ?_
      intro wq hwq
      obtain ⟨e5, rfl⟩ := hwq
      have hfin := HBW.out.trans (e5.below.mono HBW.out.size)
      have HFIN := Lib.hid hfin
      clear hfin
      go_wp2
      go_ret
      exact ⟨rfl, HFIN.out⟩
end Go.Proofs.YtgfkmbdipemgmaaDoor
