/- What start and begin hand back, and Sum: the value of any bytes; nothing that was there has changed. -/
import Derived.Test.YtgfkmbdipemgmaaDoorSum
namespace Go.Proofs.YtgfkmbdipemgmaaDoor
open Go Go.RowKit

/-- x is a slice of len bytes that can be read. -/
def Rx (w : World) (x : Value) (len : Nat) (f : Nat → Int) : Prop :=
  (x = .slice none 0 0 ∧ len = 0) ∨ ∃ b off cap, x = .slice (some ⟨b, off, none⟩) len cap ∧ b < w.heap.size ∧ ∀ j, j < len → w.cell? ⟨b, off + j, none⟩ = some (byte f j)

theorem Rx.rd {w w' : World} {x : Value} {len S : Nat} {f : Nat → Int} (h : Rx w x len f) (hb : Below w.heap.size w w') (hS : w.heap.size ≤ S) : Rd w' S x len f := by
  rcases h with h | ⟨b, off, cap, rfl, h1, h2⟩
  · exact .inl h
  · exact .inr ⟨b, off, cap, rfl, by omega, fun j hj => (hb.cell (p := ⟨b, off + j, none⟩) h1).trans (h2 j hj)⟩

theorem Rx.below {w w' : World} {x : Value} {len : Nat} {f : Nat → Int} (h : Rx w x len f) (hb : Below w.heap.size w w') : Rx w' x len f := by
  rcases h with h | ⟨b, off, cap, rfl, h1, h2⟩
  · exact .inl h
  · exact .inr ⟨b, off, cap, rfl, Nat.lt_of_lt_of_le h1 hb.size, fun j hj => (hb.cell (p := ⟨b, off + j, none⟩) h1).trans (h2 j hj)⟩

theorem Rx.form {w : World} {x : Value} {len : Nat} {f : Nat → Int} (h : Rx w x len f) : ∃ a cap, x = .slice a len cap := by
  rcases h with ⟨rfl, rfl⟩ | ⟨b, off, cap, rfl, _⟩
  · exact ⟨_, _, rfl⟩
  · exact ⟨_, _, rfl⟩

set_option maxHeartbeats 1000000 in
theorem start17 (w : World) : Calls Tryd.prog 17 #[] w fun e w' => e = .returned (.agg #[.int .u32 1779033703, .int .u32 3144134277, .int .u32 1013904242, .int .u32 2773480762, .int .u32 1359893119, .int .u32 2600822924, .int .u32 528734635, .int .u32 1541459225]) ∧ Below w.heap.size w w' := by
  go_enter Tryd.func17, Tryd.ntmps17
  go_wp2
  exact bodyPost_ret (v := .agg #[.int .u32 1779033703, .int .u32 3144134277, .int .u32 1013904242, .int .u32 2773480762, .int .u32 1359893119, .int .u32 2600822924, .int .u32 528734635, .int .u32 1541459225]) (results_cell_row Tryd.results17 _ _ w.heap.size 43 _ (0, 0) _ rfl (heap_alloc_new w _) Tryd.underlying43 rfl info43) rfl ⟨rfl, (Below.refl _ _).alloc (Nat.le_refl _) _⟩

set_option maxHeartbeats 1000000 in
theorem begin12 (w : World) : Calls Tryd.prog 12 #[] w fun e w' => ∃ S, e = .returned (.pointer (some ⟨S, 0, none⟩)) ∧ w.heap.size ≤ S ∧ StB w' S h0F (.slice none 0 0) 0 ∧ Below w.heap.size w w' := by
  go_enter Tryd.func12, Tryd.ntmps12
  go_wp2_with (go_at_call 17; refine (start17 _).mono ?_; rintro e w1 ⟨rfl, hb1⟩)
  go_ret
  have hsz := hb1.size
  exact ⟨w1.heap.size, rfl, hsz, heap_alloc_new w1 _, hb1.alloc hsz _⟩

/-- The table of constants lies in block 0. -/
structure K0 (w : World) : Prop where
  pos : 0 < w.heap.size
  cell : ∀ j, j < 64 → w.cell? ⟨0, j, none⟩ = some (.int .u32 (kon.getD j 0))

theorem K0.below {w w' : World} (h : K0 w) (hb : Below w.heap.size w w') : K0 w' :=
  ⟨Nat.lt_of_lt_of_le h.pos hb.size, fun j hj => (hb.cell (p := ⟨0, j, none⟩) h.pos).trans (h.cell j hj)⟩
theorem K0.keeps {w w' : World} {S : Nat} {x : Option Nat} (h : K0 w) (hk : Keeps w w' S x) (hS : 0 < S) (hx : x ≠ some 0) : K0 w' :=
  ⟨Nat.lt_of_lt_of_le h.pos hk.size, fun j hj => (World.cell?_of_block (w := w) (a := ⟨0, j, none⟩) (hk.block 0 h.pos (by omega) (fun e => hx e.symm))).trans (h.cell j hj)⟩

theorem Keeps.belowB {w w' : World} {S B : Nat} {x : Option Nat} (h : Keeps w w' S x) (hB : B ≤ S) (hx : ∀ k, x = some k → B ≤ k) (hle : B ≤ w.heap.size) : Below B w w' :=
  ⟨h.os, h.tape, h.output, h.size, fun k hk => h.block k (by omega) (by omega) (fun e => by have := hx k e.symm; omega)⟩

theorem wrap_len (len : Nat) (h : len ≤ 281474976710656) (n : Int) (h0 : 0 ≤ n) (h1 : n ≤ 281474976710656) : IntKind.u64.wrap (n + (len : Int)) = n + (len : Int) := IntWalk.u64_in _ (by omega)

set_option maxHeartbeats 1000000 in
theorem sum8 (x : Value) (len : Nat) (f : Nat → Int) (w : World) (hx : Rx w x len f) (hlen : len ≤ 140737488355328) (hf0 : ∀ j, 0 ≤ f j) (hf1 : ∀ j, f j ≤ 255) (hK : K0 w) :
    Calls Tryd.prog 8 #[x] w fun e w' => e = .returned (.agg (bytesV 32 (sumF f len))) ∧ Below w.heap.size w w' := by
  obtain ⟨xa, xcap, rfl⟩ := hx.form
  have HX := Lib.hid hx; have HF0 := Lib.hid hf0; have HF1 := Lib.hid hf1
  clear hx hf0 hf1
  have hi : ∀ f, (Tryd.prog.info? 25).map (·.size) = some (bytesV 32 f).size := fun f => by rw [bytesV_size]; exact info25
  have HI := Lib.hid hi
  clear hi
  go_enter Tryd.func8, Tryd.ntmps8
  go_wp2_with fail
  refine (begin12 _).mono ?_
  rintro e w2 ⟨S, rfl, hS, hst, hb2⟩
  have hS' : w.heap.size + 1 ≤ S := by simpa using hS
  have hres2 : w2.heap[w.heap.size]? = some (.cells (bytesV 32 (fun _ => 0)) 25 (0, 0)) := (hb2.block _ (by simp)).trans (heap_alloc_new w _)
  have hbw : Below w.heap.size w w2 := ((Below.refl w.heap.size w).alloc (Nat.le_refl _) _).trans (hb2.mono (by simp))
  have hK2 := hK.below hbw
  have HRES2 := Lib.hid hres2
  clear hS hb2 hres2
  have hc := write13 S 0 len h0F f (.slice none 0 0) (.slice xa len xcap) 0 w2 hst (Sl.nil _ _ _) (by
    have := HX.out.rd hbw (S := S) (by omega)
    simpa using this) (by omega) HF0.out HF1.out (by omega) hK2.cell (by simp [Value.ownBlock])
  have HC := Lib.hid hc
  clear hc
  go_wp2_with fail
  refine HC.out.mono ?_
  rintro e w3 ⟨rfl, rest', st3, sl3, kp3, own3⟩
  have hK3 := hK2.keeps kp3 (by omega) (by simp [Value.ownBlock])
  have hb3 : Below (w.heap.size + 1) w2 w3 := kp3.belowB hS' (by simp [Value.ownBlock]) (by have := hst.lt; omega)
  have hres3 := (hb3.block w.heap.size (by omega)).trans HRES2.out
  have ew := wrap_len len (by omega) 0 (by omega) (by omega)
  rw [ew] at st3
  have hs := sum14 S (S + 1) ((0 + len) % 64) (hsF h0F f ((0 + len) / 64)) (fun j => f (64 * ((0 + len) / 64) + j)) rest' (0 + (len : Int)) w3 st3 sl3 (Nat.mod_lt _ (by omega)) (by omega) (by omega) (fun _ => HF0.out _) (fun _ => HF1.out _) (by omega) hK3.cell
  have HS := Lib.hid hs; have HRES3 := Lib.hid hres3; have HB3 := Lib.hid hb3; have HBW := Lib.hid hbw
  have hsz3 : w.heap.size + 1 ≤ w3.heap.size := by have := st3.lt; omega
  clear hs hres3 hb3 st3 sl3 kp3 own3 hK3 hK2 hst ew HRES2 HC hbw
  go_wp2_with (first | (go_at_call 14; refine HS.out.mono ?_; rintro e w4 ⟨rfl, hb4⟩; have h4 := (hb4.block w.heap.size (by omega)).trans HRES3.out; have HRES4 := Lib.hid h4; have HB4 := Lib.hid hb4; clear h4 hb4) | (refine wpList_store_row rfl 25 _ _ rfl w.heap.size (bytesV 32 _) rfl rfl 25 _ HRES4.out (HI.out _) (by rw [bytesV_size, bytesV_size]) (bytesV_one _ _) ?_))
  have he : outF (hsF (hsF h0F f (len / 64)) (padF (fun j => f (64 * (len / 64) + j)) (len % 64) (len : Int)) ((len % 64 + 9 + zer (len % 64)) / 64)) = sumF f len := by
    unfold sumF hvF
    simp only [Nat.zero_add]
  rw [he]
  have hb2 : Below w.heap.size w w4 := (HBW.out.trans (HB3.out.mono (by omega))).trans (HB4.out.mono (by omega))
  exact bodyPost_ret (v := .agg (bytesV 32 (sumF f len))) (results_cell_row Tryd.results8 _ _ w.heap.size 25 (bytesV 32 (sumF f len)) (0, 0) _ rfl (setRow_heap _ _ _ _ _ _ HRES4.out) Tryd.underlying25 rfl (HI.out _)) rfl ⟨rfl, below_setRow hb2 (Nat.le_refl _) _⟩
end Go.Proofs.YtgfkmbdipemgmaaDoor
