/- The walk of the law on sums: it returns true; nothing that was there has changed. -/
import Derived.Test.YtgfkmbdipemgmaaDoorShown
import Derived.Test.YtgfkmbdipemgmaaDoorRefMac
import Derived.Laws.BytesArg
namespace Go.Proofs.YtgfkmbdipemgmaaDoor
open Go Go.RowKit

theorem conv_rx {w : World} {x : Value} {n : Nat} {f : Nat → Int} (h : Rx w x n f) : (convert 22 9 x).run Tryd.prog w = .ok (.string (strOfNums ((List.range n).map f))) w := by
  rcases h with ⟨rfl, rfl⟩ | ⟨b, off, cap, rfl, _, hc⟩
  · rw [run_convert_bytes_nil w 22 5 Tryd.underlying22 Tryd.underlying5 0 0 9 Tryd.underlying9]; rfl
  · exact run_convert_bytes_arg w 22 5 Tryd.underlying22 Tryd.underlying5 b off n cap _ (by simp) (fun i hi => by rw [hc i hi]; unfold byte; simp [hi]) 9 Tryd.underlying9

set_option maxHeartbeats 1000000 in
set_option maxRecDepth 100000 in
theorem lawSums (x : Value) (len : Nat) (f : Nat → Int) (w : World) (hx : Rx w x len f) (hlen : len ≤ 140737488351232) (hf0 : ∀ j, 0 ≤ f j) (hf1 : ∀ j, f j ≤ 255) (hK : K0 w) :
    Calls Tryd.prog 3 #[x] w fun e w' => e = .returned (.bool true) ∧ Below w.heap.size w w' := by
  obtain ⟨xa, xcap, rfl⟩ := hx.form
  obtain ⟨i5, hi5, hz0, hz1, hz2⟩ := info_parts info5
  have HX := Lib.hid hx; have HF0 := Lib.hid hf0; have HF1 := Lib.hid hf1; have HK := Lib.hid hK
  have HI5 := Lib.hid hi5; have HZ0 := Lib.hid hz0; have HZ1 := Lib.hid hz1; have HZ2 := Lib.hid hz2
  clear hx hf0 hf1 hi5 hz0 hz1 hz2 hK
  go_enter Tryd.func3, Tryd.ntmps3
  go_wp2_with fail
  refine (shown7 w HK.out).mono ?_
  rintro e w1 ⟨rfl, hb1⟩
  have hsrc : Src Tryd.prog 1 22 (.slice xa len xcap) len (cellsOf len (byte f)) (w1.alloc (.cells #[] 5)) := ((HX.out.below hb1).below ((Below.refl _ _).alloc (Nat.le_refl _) _)).src
  have HSRC := Lib.hid hsrc; have HB1 := Lib.hid hb1
  have hz1' := hb1.size
  clear hsrc hb1
  go_wp2_with (at_builtin; refine wpList_append_sl (lo := w1.heap.size) (m := 0) (n := len) (r := byte f) (q := byte f) (v := .slice (some ⟨w1.heap.size, 0, none⟩) 0 0) (x := .slice xa len xcap) rfl _ _ 22 22 rfl 5 i5 (.int .u8 0) 1 Tryd.underlying22 HI5.out HZ0.out rfl HZ1.out HZ2.out rfl rfl (Sl.empty _ _ _ _ _ (Nat.le_refl _) (by simp)) HSRC.out (fun j _ => byte_one _ j) (by simp) (by omega) (by omega) ?_; intro v3 w3 hs3 hg3 _; have hs3' := own_copy (B := w1.heap.size) hs3 hg3 (fun j _ => rfl) (Nat.le_refl _); obtain ⟨a3, cap3, rfl⟩ := hs3'.1.form; have HS3 := Lib.hid hs3'; clear hs3 hs3' hg3)
  have hb3 : Below w.heap.size w w3 := HB1.out.trans (HS3.out.2.mono hz1')
  refine (sum8 (.slice a3 len cap3) len f w3 HS3.out.1.rx (by omega) HF0.out HF1.out (HK.out.below hb3)).mono ?_
  rintro e w4 ⟨rfl, hb4⟩
  have hb4' : Below w.heap.size w w4 := hb3.trans (hb4.mono hb3.size)
  have HB4 := Lib.hid hb4; have HB4' := Lib.hid hb4'
  clear hb3 hb4 hb4'
  go_wp2_with fail
  refine (refSum9 (.slice xa len xcap) len f w4 (HX.out.below HB4'.out) (by omega) HF0.out HF1.out).mono ?_
  rintro e w5 ⟨rfl, hb5⟩
  have xeq := eq25 (sumF f len)
  have xg := guard25
  have xc1 := conv_rx ((HS3.out.1.rx.below HB4.out).below hb5)
  have xc2 := conv_rx ((HX.out.below HB4'.out).below hb5)
  have hfin : Below w.heap.size w w5 := HB4'.out.trans (hb5.mono HB4'.out.size)
  have HFIN := Lib.hid hfin
  clear hb5 hfin
  go_wp2
  go_ret
  exact ⟨rfl, HFIN.out⟩
end Go.Proofs.YtgfkmbdipemgmaaDoor
