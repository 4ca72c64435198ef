/- The walk of the law on macs: it returns true; nothing that was there has changed. -/
import Derived.Test.YtgfkmbdipemgmaaDoorLawSums
namespace Go.Proofs.YtgfkmbdipemgmaaDoor
open Go Go.RowKit

/-- Two equal rows of 32 bytes, compared in a region. -/
theorem wpList_eq25 {ops : Array Oper} {rest : List Oper} {o : Oper} {a : Act} {w : World} {Q : Exit → Act → World → Prop} (hw : Region.wanted o (yielded ops a.tmps) = true) (x y : Operand) (t : TypeId) (ho : o.op = .binOp .eql 25 x y t)
    (F : Nat → Int) (hx : a.eval x = .agg (bytesV 32 F)) (hy : a.eval y = .agg (bytesV 32 F)) (h : wpList Tryd.prog ops Q rest (a.put o.dst (.bool true)) w) : wpList Tryd.prog ops Q (o :: rest) a w :=
  wpList_step fun K hK => by
    rw [if_pos hw]
    unfold Oper.wp execOp
    simp only [ho, hx, hy, Sem.run_bind, run_eqGuard_agg (P := Tryd.prog) w .eql 25 x y _ _ guard25, run_eql_struct, eq25, Result.andThen_ok, Sem.run_pure]
    exact hK _ _ h

set_option maxHeartbeats 1000000 in
set_option maxRecDepth 100000 in
theorem lawMacs (kv x : Value) (klen len : Nat) (kf f : Nat → Int) (w : World) (hkx : Rx w kv klen kf) (hx : Rx w x len f) (hklen : klen ≤ 140737488351232) (hlen : len ≤ 140737488351232)
    (hk0 : ∀ j, 0 ≤ kf j) (hk1 : ∀ j, kf j ≤ 255) (hf0 : ∀ j, 0 ≤ f j) (hf1 : ∀ j, f j ≤ 255) (hK : K0 w) :
    Calls Tryd.prog 4 #[kv, x] w fun e w' => e = .returned (.bool true) ∧ Below w.heap.size w w' := by
  obtain ⟨ka, kcap, rfl⟩ := hkx.form
  obtain ⟨xa, xcap, rfl⟩ := hx.form
  obtain ⟨i5, hi5, hz0, hz1, hz2⟩ := info_parts info5
  have HX := Lib.hid hx; have HKX := Lib.hid hkx; have HF0 := Lib.hid hf0; have HF1 := Lib.hid hf1; have HK := Lib.hid hK; have HK0 := Lib.hid hk0; have HK1 := Lib.hid hk1
  have HI5 := Lib.hid hi5; have HZ0 := Lib.hid hz0; have HZ1 := Lib.hid hz1; have HZ2 := Lib.hid hz2
  clear hx hkx hf0 hf1 hk0 hk1 hi5 hz0 hz1 hz2 hK
  go_enter Tryd.func4, Tryd.ntmps4
  go_wp2_with fail
  refine (shown7 w HK.out).mono ?_
  rintro e w1 ⟨rfl, hb1⟩
  have hsrc : Src Tryd.prog 1 22 (.slice ka klen kcap) klen (cellsOf klen (byte kf)) (w1.alloc (.cells #[] 5)) := ((HKX.out.below hb1).below ((Below.refl _ _).alloc (Nat.le_refl _) _)).src
  have HSRC := Lib.hid hsrc; have HB1 := Lib.hid hb1
  have hz1' := hb1.size
  clear hsrc hb1
  go_wp2_with (first | (at_builtin; refine wpList_append_sl (lo := w1.heap.size) (m := 0) (n := klen) (r := byte kf) (q := byte kf) (v := .slice (some ⟨w1.heap.size, 0, none⟩) 0 0) (x := .slice ka klen kcap) rfl _ _ 22 22 rfl 5 i5 (.int .u8 0) 1 Tryd.underlying22 HI5.out HZ0.out rfl HZ1.out HZ2.out rfl rfl (Sl.empty _ _ _ _ _ (Nat.le_refl _) (by simp)) HSRC.out (fun j _ => byte_one _ j) (by simp) (by omega) (by omega) ?_; intro v3 w3 hs3 hg3 _; have hs3' := own_copy (B := w1.heap.size) hs3 hg3 (fun j _ => rfl) (Nat.le_refl _); obtain ⟨a3, cap3, rfl⟩ := hs3'.1.form; have hb3 := HB1.out.trans (hs3'.2.mono hz1'); have HB3 := Lib.hid hb3; have hsrc3 := ((HX.out.below hb3).below ((Below.refl w3.heap.size w3).alloc (Nat.le_refl _) (.cells #[] 5))).src; have HSRC3 := Lib.hid hsrc3; have HS3 := Lib.hid hs3'; clear hs3 hs3' hg3 hb3 hsrc3) | (at_builtin; refine wpList_append_sl (lo := w3.heap.size) (m := 0) (n := len) (r := byte f) (q := byte f) (v := .slice (some ⟨w3.heap.size, 0, none⟩) 0 0) (x := .slice xa len xcap) rfl _ _ 22 22 rfl 5 i5 (.int .u8 0) 1 Tryd.underlying22 HI5.out HZ0.out rfl HZ1.out HZ2.out rfl rfl (Sl.empty _ _ _ _ _ (Nat.le_refl _) (by simp)) HSRC3.out (fun j _ => byte_one _ j) (by simp) (by omega) (by omega) ?_; intro v5 w5 hs5 hg5 _; have hs5' := own_copy (B := w3.heap.size) hs5 hg5 (fun j _ => rfl) (Nat.le_refl _); obtain ⟨a5, cap5, rfl⟩ := hs5'.1.form; have HS5 := Lib.hid hs5'; clear hs5 hs5' hg5))
  have hb5 : Below w.heap.size w w5 := HB3.out.trans (HS5.out.2.mono HB3.out.size)
  have hk5 : Rx w5 (.slice a3 klen cap3) klen kf := HS3.out.1.rx.below HS5.out.2
  have hm10 := mac10 (.slice a3 klen cap3) (.slice a5 len cap5) klen len kf f w5 hk5 HS5.out.1.rx (by omega) (by omega) HK0.out HK1.out HF0.out HF1.out (HK.out.below hb5)
  have hm11 := fun w6 (h1 : Rx w6 (.slice ka klen kcap) klen kf) (h2 : Rx w6 (.slice xa len xcap) len f) => refMac11 (.slice ka klen kcap) (.slice xa len xcap) klen len kf f w6 h1 h2 (by omega) (by omega) HK0.out HK1.out HF0.out HF1.out
  generalize macB (keyF kf klen) f len = M at hm10 hm11
  refine hm10.mono ?_
  rintro e w6 ⟨rfl, hb6⟩
  have hb6' : Below w.heap.size w w6 := hb5.trans (hb6.mono hb5.size)
  have hk6 := hk5.below hb6
  have hx6 := HS5.out.1.rx.below hb6
  have HB6 := Lib.hid hb6'; have HK6 := Lib.hid hk6; have HX6 := Lib.hid hx6
  clear hb5 hk5 hb6 hb6' hk6 hx6
  go_wp2_with fail
  refine (hm11 w6 (HKX.out.below HB6.out) (HX.out.below HB6.out)).mono ?_
  rintro e w7 ⟨rfl, hb7⟩
  have xc1 := conv_rx (HK6.out.below hb7)
  have xc2 := conv_rx ((HKX.out.below HB6.out).below hb7)
  have xc3 := conv_rx (HX6.out.below hb7)
  have xc4 := conv_rx ((HX.out.below HB6.out).below hb7)
  generalize strOfNums ((List.range klen).map kf) = S1 at xc1 xc2
  generalize strOfNums ((List.range len).map f) = S2 at xc3 xc4
  have hfin : Below w.heap.size w w7 := HB6.out.trans (hb7.mono HB6.out.size)
  have HFIN := Lib.hid hfin
  clear hb7 hfin hm10 hm11
  go_wp2_with (refine wpList_eq25 rfl _ _ _ rfl M rfl rfl ?_)
  go_ret
  exact ⟨rfl, HFIN.out⟩
end Go.Proofs.YtgfkmbdipemgmaaDoor
