/- What Mac hands back: the mac of any bytes by any key; nothing that was there has changed. -/
import Derived.Test.YtgfkmbdipemgmaaDoorWith
import Derived.Laws.CopyOwn
namespace Go.Proofs.YtgfkmbdipemgmaaDoor
open Go Go.RowKit

theorem info40 : (Tryd.prog.info? 40).map (·.size) = some 64 := by kernel_rfl

theorem size5 : (Tryd.prog.info? 5).map (·.size) = some 1 := by kernel_rfl

theorem splice_key (n : Nat) (kf : Nat → Int) (hn : n ≤ 64) : (splice ((List.range 64).map fun _ => Value.int .u8 0) 0 (cellsOf n (byte kf))).toArray = bytesV 64 (fun j => if j < n then kf j else 0) := by
  unfold bytesV
  congr 1
  apply List.ext_getElem?
  intro j
  unfold splice
  simp only [List.take_zero, List.nil_append, Nat.zero_add, cellsOf_length]
  by_cases hj : j < n
  · rw [List.getElem?_append_left (by rw [cellsOf_length]; exact hj), cellsOf_get hj]
    have h64 : j < 64 := by omega
    simp [h64, hj, byte]
  · rw [List.getElem?_append_right (by rw [cellsOf_length]; omega), cellsOf_length, List.getElem?_drop, show n + (j - n) = j by omega]
    by_cases h64 : j < 64
    · simp [h64, hj]
    · simp [h64]

theorem wpList_copy_key {ops : Array Oper} {rest : List Oper} {o : Oper} {a : Act} {W : World} {Q : Exit → Act → World → Prop} (hgd : o.guard = none) (d s : Operand)
    (ho : o.op = .call { callee := .builtin .copy, args := #[d, s], argTypes := #[22, 22] }) {K n B : Nat} {kv : Value} {kf : Nat → Int} {w0 : World}
    (hd : a.eval d = .slice (some ⟨K, 0, none⟩) 64 64) (hs : a.eval s = kv) (hkx : Rx W kv n kf) (hn : n ≤ 64) (hg : W.heap[K]? = some (.cells (bytesV 64 (fun _ => 0)) 40 (0, 0))) (hb : Below B w0 W) (hBK : B ≤ K)
    (h : ∀ w', w'.heap[K]? = some (.cells (bytesV 64 (fun j => if j < n then kf j else 0)) 40 (0, 0)) → Below B w0 w' → wpList Tryd.prog ops Q rest (a.put o.dst (goInt n)) w') :
    wpList Tryd.prog ops Q (o :: rest) a W := by
  obtain ⟨ka, kcap, rfl⟩ := hkx.form
  refine wpList_copy_splice hgd d s 22 22 ho 5 Tryd.underlying22 size5 (some ⟨K, 0, none⟩) ka 64 64 n kcap hd hs K 0 ((List.range 64).map fun _ => Value.int .u8 0) 40 hg (cellsOf n (byte kf)) (by rw [cellsOf_length]; exact (Nat.min_eq_left hn).symm) ?_ (by rw [cellsOf_length]; simp; exact hn) ?_ B w0 hb hBK ?_
  · intro hpos
    rw [cellsOf_length] at hpos
    refine ⟨rfl, ?_⟩
    rcases hkx with ⟨_, h0⟩ | ⟨b, off, cap, he, _, hc⟩
    · omega
    · simp only [Value.slice.injEq] at he
      obtain ⟨rfl, _, _⟩ := he
      refine ⟨_, rfl, fun j v hv => ?_⟩
      have hj : j < n := by
        have := (List.getElem?_eq_some_iff.1 hv).1
        rwa [cellsOf_length] at this
      rw [cellsOf_get hj] at hv
      have ea : (⟨b, off, none⟩ : Addr).add j = ⟨b, off + j, none⟩ := by unfold Addr.add; split <;> simp_all
      rw [ea, hc j hj]; exact hv
  · intro v hv
    obtain ⟨j, _, rfl⟩ := List.mem_map.1 hv
    rfl
  · intro w' h1 h2
    have h1' := h1.out
    rw [splice_key n kf hn] at h1'
    rw [cellsOf_length]
    exact h w' h1' h2

/-- What stays from the copy of the key on: the result's block, the key's block, the table. -/
structure Mc (w0 w : World) (B : Nat) (key : Nat → Int) : Prop where
  below : Below B w0 w
  res : w.heap[B]? = some (.cells (bytesV 32 (fun _ => 0)) 25 (0, 0))
  key : w.heap[B + 1]? = some (.cells (bytesV 64 key) 40 (0, 0))
  k0 : K0 w
  size : B + 2 ≤ w.heap.size

theorem Mc.next {w0 w w' : World} {B : Nat} {key : Nat → Int} (h : Mc w0 w B key) (hb : Below (B + 2) w w') : Mc w0 w' B key :=
  ⟨h.below.trans (hb.mono (by omega)), (hb.block _ (by omega)).trans h.res, (hb.block _ (by omega)).trans h.key,
    ⟨Nat.lt_of_lt_of_le h.k0.pos hb.size, fun j hj => (hb.cell (p := ⟨0, j, none⟩) (by show 0 < B + 2; omega)).trans (h.k0.cell j hj)⟩, Nat.le_trans h.size hb.size⟩

theorem Mc.below2 {w0 w w' : World} {B : Nat} {key : Nat → Int} (h : Mc w0 w B key) (hb : Below w.heap.size w w') : Mc w0 w' B key := h.next (hb.mono h.size)

theorem keyF_short (kf : Nat → Int) {n : Nat} (h : n ≤ 64) : bytesV 64 (fun j => if j < n then kf j else 0) = bytesV 64 (keyF kf n) :=
  bytesV_congr fun j _ => by unfold keyF; rw [if_pos h]
theorem keyF_long (kf : Nat → Int) {n : Nat} (h : ¬ n ≤ 64) : bytesV 64 (fun j => if j < 32 then sumF kf n j else 0) = bytesV 64 (keyF kf n) :=
  bytesV_congr fun j _ => by unfold keyF; rw [if_neg h]

/-- (*state).sum behind a write. -/
theorem sum14' (S lo m len : Nat) (h f : Nat → Int) (rest : Value) (n : Int) (w : World)
    (hS : StB w S (hsF h f ((m + len) / 64)) rest n) (hr : Sl w lo rest ((m + len) % 64) (byte (fun j => f (64 * ((m + len) / 64) + j)))) (hn0 : 0 ≤ n) (hn1 : n ≤ 1125899906842624)
    (hc0 : ∀ j, 0 ≤ f j) (hc1 : ∀ j, f j ≤ 255) (hg : 0 < S) (hK : K0 w) :
    Calls Tryd.prog 14 #[.pointer (some ⟨S, 0, none⟩)] w fun e w' => e = .returned (.agg (bytesV 32 (outF (hvF h f m len n)))) ∧ Below w.heap.size w w' :=
  sum14 S lo ((m + len) % 64) (hsF h f ((m + len) / 64)) (fun j => f (64 * ((m + len) / 64) + j)) rest n w hS hr (Nat.mod_lt _ (by omega)) hn0 hn1 (fun _ => hc0 _) (fun _ => hc1 _) hg hK.cell

/-- (*state).write of one whole piece onto a new state. -/
theorem write64 (S b off cap : Nat) (T : Nat → Int) (w : World) (hS : StB w S h0F (.slice none 0 0) 0) (hb : b ≠ S) (hc : ∀ j, j < 64 → w.cell? ⟨b, off + j, none⟩ = some (byte T j))
    (hc0 : ∀ j, 0 ≤ T j) (hc1 : ∀ j, T j ≤ 255) (hg : 0 < S) (hK : K0 w) :
    Calls Tryd.prog 13 #[.pointer (some ⟨S, 0, none⟩), .slice (some ⟨b, off, none⟩) 64 cap] w fun e w' => e = .returned (.tuple #[]) ∧
      ∃ rest', StB w' S (hsF h0F T 1) rest' 64 ∧ (∀ f, Sl w' (S + 1) rest' 0 (byte f)) ∧ Keeps w w' S none ∧ (∀ b, rest'.ownBlock = some b → w.heap.size ≤ b) := by
  refine (write13 S 0 64 h0F T (.slice none 0 0) (.slice (some ⟨b, off, none⟩) 64 cap) 0 w hS (Sl.nil _ _ _) (.inr ⟨b, off, cap, rfl, hb, fun j hj => ?_⟩) (by omega) hc0 hc1 hg hK.cell (by simp [Value.ownBlock])).mono ?_
  · rw [hc j hj]; unfold byte; simp
  · rintro e w' ⟨rfl, r, st, sl, kp, own⟩
    refine ⟨rfl, r, st, fun f => sl.congr (fun j hj => ?_), kp, fun b hb => ?_⟩
    · exact absurd hj (Nat.not_lt_zero j)
    · rcases own b hb with h | h
      · cases h
      · exact h

/-- The row of 32 bytes that has just been laid and filled. -/
def newRow32 (wa : World) (g : Nat → Int) : World := (wa.alloc (.cells (bytesV 32 (fun _ => 0)) 25)).setRow wa.heap.size (bytesV 32 g)

theorem newRow32_rx (wa : World) (g : Nat → Int) : Rx (newRow32 wa g) (.slice (some ⟨wa.heap.size, 0, none⟩) 32 32) 32 g :=
  .inr ⟨wa.heap.size, 0, 32, rfl, by unfold newRow32; simp, fun j hj => by
    unfold newRow32
    rw [Nat.zero_add, cell_of_row _ _ _ _ _ _ (setRow_heap _ _ _ _ _ _ (heap_alloc_new wa _)), bytesV_get hj]; rfl⟩

theorem newRow32_below (wa : World) (g : Nat → Int) : Below wa.heap.size wa (newRow32 wa g) :=
  Go.Proofs.YtgfkmbdipemgmaaDoor.below_setRow ((Below.refl _ _).alloc (Nat.le_refl _) _) (Nat.le_refl _) _

theorem copy_facts (w wa : World) (A B : Obj) (hba : Below ((w.alloc A).alloc B).heap.size ((w.alloc A).alloc B) wa) (g : Nat → Int) :
    (newRow32 wa g).heap[w.heap.size + 1]? = some B ∧ Below (w.heap.size + 1) (w.alloc A) (newRow32 wa g) := by
  have h1 := (newRow32_below wa g).mono (B' := w.heap.size + 2) (by have := hba.size; simp at this; omega)
  have h2 := hba.mono (B' := w.heap.size + 2) (by simp)
  refine ⟨(h1.block _ (by omega)).trans ((h2.block _ (by omega)).trans (heap_alloc2_new w A B)), ?_⟩
  exact (((Below.refl (w.heap.size + 1) (w.alloc A)).alloc (by simp) B).trans (h2.mono (by omega))).trans (h1.mono (by omega))

set_option maxHeartbeats 1000000 in
theorem mac10 (kv x : Value) (klen len : Nat) (kf f : Nat → Int) (w : World) (hkx : Rx w kv klen kf) (hx : Rx w x len f) (hklen : klen ≤ 140737488355328) (hlen : len ≤ 140737488355328)
    (hk0 : ∀ j, 0 ≤ kf j) (hk1 : ∀ j, kf j ≤ 255) (hf0 : ∀ j, 0 ≤ f j) (hf1 : ∀ j, f j ≤ 255) (hK : K0 w) :
    Calls Tryd.prog 10 #[kv, x] w fun e w' => e = .returned (.agg (bytesV 32 (macB (keyF kf klen) f len))) ∧ Below w.heap.size w w' := by
  obtain ⟨ka, kcap, rfl⟩ := hkx.form
  obtain ⟨xa, xcap, rfl⟩ := hx.form
  have HKX := Lib.hid hkx; have HX := Lib.hid hx; have HF0 := Lib.hid hf0; have HF1 := Lib.hid hf1; have HK0 := Lib.hid hk0; have HK1 := Lib.hid hk1
  clear hkx hx hf0 hf1 hk0 hk1
  have hi : ∀ f, (Tryd.prog.info? 25).map (·.size) = some (bytesV 32 f).size := fun f => by rw [bytesV_size]; exact info25
  have hi40 : ∀ f, (Tryd.prog.info? 40).map (·.size) = some (bytesV 64 f).size := fun f => by rw [bytesV_size]; exact info40
  have HI := Lib.hid hi; have HI40 := Lib.hid hi40
  clear hi hi40
  by_cases hk64 : klen ≤ 64
  go_enter Tryd.func10, Tryd.ntmps10
  go_wp2_with (refine wpList_copy_key (K := w.heap.size + 1) (n := klen) (B := w.heap.size + 1) (kf := kf) (kv := .slice ka klen kcap) (w0 := w.alloc (.cells (bytesV 32 (fun _ => 0)) 25)) rfl _ _ rfl rfl rfl (HKX.out.below (((Below.refl _ _).alloc (Nat.le_refl _) _).alloc (by simp) _)) hk64 (heap_alloc2_new w _ _) ((Below.refl _ _).alloc (by simp) _) (Nat.le_refl _) ?_; intro w1 hkb hb1; rw [keyF_short kf hk64] at hkb; have HKB := Lib.hid hkb; have HB1 := Lib.hid hb1; clear hkb hb1)
  rotate_left
  have hk64' : 64 < (klen : Int) := by omega
  go_enter Tryd.func10, Tryd.ntmps10
  go_wp2_with fail
  refine (sum8 (.slice ka klen kcap) klen kf _ (HKX.out.below (((Below.refl _ _).alloc (Nat.le_refl _) _).alloc (by simp) _)) hklen HK0.out HK1.out (hK.below (((Below.refl _ _).alloc (Nat.le_refl _) _).alloc (by simp) _))).mono ?_
  rintro e wa ⟨rfl, hba⟩
  have hcf := copy_facts w wa _ _ hba (sumF kf klen)
  have CF := Lib.hid hcf
  clear hba hcf
  go_wp2_with (first | (refine wpList_store_row rfl 25 _ _ rfl wa.heap.size (bytesV 32 (sumF kf klen)) rfl rfl 25 (bytesV 32 (fun _ => 0)) (heap_alloc_new wa _) (HI.out _) (by rw [bytesV_size, bytesV_size]) (bytesV_one _ _) ?_) | (refine wpList_copy_key (K := w.heap.size + 1) (n := 32) (B := w.heap.size + 1) (kf := sumF kf klen) (kv := .slice (some ⟨wa.heap.size, 0, none⟩) 32 32) (w0 := w.alloc (.cells (bytesV 32 (fun _ => 0)) 25)) rfl _ _ rfl rfl rfl (newRow32_rx wa (sumF kf klen)) (by omega) CF.out.1 CF.out.2 (Nat.le_refl _) ?_; intro w1 hkb hb1; rw [keyF_long kf hk64] at hkb; have HKB := Lib.hid hkb; have HB1 := Lib.hid hb1; clear hkb hb1))
  all_goals
    have hm1 : Mc w w1 w.heap.size (keyF kf klen) := ⟨((Below.refl w.heap.size w).alloc (Nat.le_refl _) _).trans (HB1.out.mono (by omega)), (HB1.out.block _ (by omega)).trans (heap_alloc_new w _), HKB.out,
      hK.below (((Below.refl w.heap.size w).alloc (Nat.le_refl _) _).trans (HB1.out.mono (by omega))), by have := (Array.getElem?_eq_some_iff.1 HKB.out).1; omega⟩
    have hkey0 : ∀ j, 0 ≤ turned (keyF kf klen) 54 j := fun j => (bits_u8 _ _ _).1
    have hkey1 : ∀ j, turned (keyF kf klen) 54 j ≤ 255 := fun j => (bits_u8 _ _ _).2
    clear HKB HB1 HK0 HK1 HKX
    refine (begin12 _).mono ?_
    rintro e w2 ⟨S1, rfl, hS1, hst1, hb2⟩
    have hm2 := hm1.below2 hb2
    have hS1' : w.heap.size + 2 ≤ S1 := Nat.le_trans hm1.size hS1
    clear hb2 hm1 hS1
    go_wp2_with fail
    refine (begin12 _).mono ?_
    rintro e w3 ⟨S2, rfl, hS2, hst2, hb3⟩
    have hm3 := hm2.below2 hb3
    have hst1' := hst1.kept (hb3.block S1 hst1.lt)
    have hS12 : S1 < S2 := Nat.lt_of_lt_of_le hst1.lt hS2
    clear hb3 hm2 hS2 hst1
    have HKEY := Lib.hid hm3.key
    go_wp2_with (refine wpList_load_row rfl 40 _ rfl (w.heap.size + 1) rfl 40 _ _ _ HKEY.out Tryd.underlying40 rfl (HI40.out _) ?_)
    refine (with16 (keyF kf klen) 54 w3).mono ?_
    rintro e w4 ⟨B3, rfl, hB3, hblk3, hb4⟩
    have hm4 := hm3.below2 hb4
    have hst1 := hst1'.kept (hb4.block S1 hst1'.lt)
    have hst2' := hst2.kept (hb4.block S2 hst2.lt)
    have hB3' : S2 < B3 := Nat.lt_of_lt_of_le hst2.lt hB3
    have hw5 := write64 S1 B3 0 64 (turned (keyF kf klen) 54) w4 hst1 (by omega) (fun j hj => by rw [Nat.zero_add, cell_of_row _ _ _ _ _ _ hblk3, bytesV_get hj]; rfl) hkey0 hkey1 (by omega) hm4.k0
    have HW5 := Lib.hid hw5
    clear hw5 hst1' hst2 hm3 hB3 hblk3 hb4 HKEY hkey0 hkey1
    go_wp2_with fail
    refine HW5.out.mono ?_
    rintro e w5 ⟨rfl, r5, st5, sl5, kp5, own5⟩
    have hb5 : Below (w.heap.size + 2) w4 w5 := kp5.belowB hS1' (by simp) hm4.size
    have hm5 := hm4.next hb5
    have hst2 := hst2'.kept (kp5.block S2 hst2'.lt (by omega) (by simp))
    have hr5 : r5.ownBlock ≠ some 0 := fun e => by have := own5 0 e; have := hm4.size; omega
    have hr5' : ∀ b, r5.ownBlock = some b → S2 < b := fun b e => by have := own5 b e; have := hst2'.lt; omega
    have hw6 := write13 S1 0 len (hsF h0F (turned (keyF kf klen) 54) 1) f r5 (.slice xa len xcap) 64 w5 st5 (sl5 f) (by
      have := HX.out.rd (hm5.below.mono (Nat.le_refl _)) (S := S1) (by omega)
      simpa using this) (by omega) HF0.out HF1.out (by omega) hm5.k0.cell hr5
    have HW6 := Lib.hid hw6
    clear hw6 hst1 hst2' hm4 hb5 sl5 HW5 kp5 own5 hr5
    go_wp2_with fail
    refine HW6.out.mono ?_
    rintro e w6 ⟨rfl, r6, st6, sl6, kp6, own6⟩
    have hb6 : Below (w.heap.size + 2) w5 w6 := kp6.belowB hS1' (fun k hk => by have := hr5' k hk; omega) hm5.size
    have hm6 := hm5.next hb6
    have hst2' := hst2.kept (kp6.block S2 hst2.lt (by omega) (fun e => by have := hr5' S2 e.symm; omega))
    rw [wrap_len len (by omega) 64 (by omega) (by omega)] at st6
    have hs7 := sum14' S1 (S1 + 1) 0 len (hsF h0F (turned (keyF kf klen) 54) 1) f r6 (64 + (len : Int)) w6 st6 sl6 (by omega) (by omega) HF0.out HF1.out (by omega) hm6.k0
    have hin : ∀ j, 0 ≤ outF (hvF (hsF h0F (turned (keyF kf klen) 54) 1) f 0 len (64 + (len : Int))) j ∧ outF (hvF (hsF h0F (turned (keyF kf klen) 54) 1) f 0 len (64 + (len : Int))) j ≤ 255 := fun j => outF_bd _ j
    have hmac : macB (keyF kf klen) f len = outF (hvF (hsF h0F (turned (keyF kf klen) 92) 1) (outF (hvF (hsF h0F (turned (keyF kf klen) 54) 1) f 0 len (64 + (len : Int)))) 0 32 96) := rfl
    generalize outF (hvF (hsF h0F (turned (keyF kf klen) 54) 1) f 0 len (64 + (len : Int))) = inn at hs7 hin hmac
    have HS7 := Lib.hid hs7; have HIN := Lib.hid hin; have HMAC := Lib.hid hmac
    clear hs7 hst2 hm5 hb6 HW6 kp6 own6 st5 st6 sl6 hr5' hin hmac
    go_wp2_with fail
    refine HS7.out.mono ?_
    rintro e w7 ⟨rfl, hb7⟩
    have hm7 := hm6.below2 hb7
    have hst2 := hst2'.kept (hb7.block S2 hst2'.lt)
    have hm8 := hm7.below2 (newRow32_below w7 inn)
    have hst3 := hst2.kept ((newRow32_below w7 inn).block S2 hst2.lt)
    have HKEY := Lib.hid hm8.key
    have hz7 := hst2.lt
    clear hst2' hm6 hb7 HS7 hst2 hm7
    go_wp2_with (first | (refine wpList_store_row rfl 25 _ _ rfl w7.heap.size (bytesV 32 inn) rfl rfl 25 (bytesV 32 (fun _ => 0)) (heap_alloc_new w7 _) (HI.out _) (by rw [bytesV_size, bytesV_size]) (bytesV_one _ _) ?_; change wpList _ _ _ _ _ (newRow32 w7 inn)) | (refine wpList_load_row rfl 40 _ rfl (w.heap.size + 1) rfl 40 _ _ _ HKEY.out Tryd.underlying40 rfl (HI40.out _) ?_))
    have hrow := newRow32_rx w7 inn
    have hrsz : w7.heap.size < (newRow32 w7 inn).heap.size := by unfold newRow32; simp
    have hrow' : ∀ j, j < 32 → (newRow32 w7 inn).cell? ⟨w7.heap.size, 0 + j, none⟩ = some (byte inn j) := by
      rcases hrow with ⟨h, _⟩ | ⟨b, off, cap, h, _, hc⟩
      · cases h
      · simp only [Value.slice.injEq, Option.some.injEq, Addr.mk.injEq] at h
        obtain ⟨⟨rfl, rfl, _⟩, _, _⟩ := h
        exact hc
    have HROW := Lib.hid hrow'
    clear hrow hrow'
    generalize w7.heap.size = H7 at *
    generalize newRow32 w7 inn = w8 at *
    have hkey0 : ∀ j, 0 ≤ turned (keyF kf klen) 92 j := fun j => (bits_u8 _ _ _).1
    have hkey1 : ∀ j, turned (keyF kf klen) 92 j ≤ 255 := fun j => (bits_u8 _ _ _).2
    refine (with16 (keyF kf klen) 92 w8).mono ?_
    rintro e w9 ⟨B9, rfl, hB9, hblk9, hb9⟩
    have hm9 := hm8.below2 hb9
    have hst4 := hst3.kept (hb9.block S2 hst3.lt)
    have hB9' : S2 < B9 := Nat.lt_of_lt_of_le hst3.lt hB9
    have hw10 := write64 S2 B9 0 64 (turned (keyF kf klen) 92) w9 hst4 (by omega) (fun j hj => by rw [Nat.zero_add, cell_of_row _ _ _ _ _ _ hblk9, bytesV_get hj]; rfl) hkey0 hkey1 (by omega) hm9.k0
    have hr9 : ∀ j, j < 32 → w9.cell? ⟨H7, 0 + j, none⟩ = some (byte inn j) := fun j hj => (hb9.cell (p := ⟨H7, 0 + j, none⟩) hrsz).trans (HROW.out j hj)
    have hs9 : H7 < w9.heap.size := Nat.lt_of_lt_of_le hrsz hb9.size
    have HW10 := Lib.hid hw10; have HR9 := Lib.hid hr9
    clear hw10 hst3 hm8 hB9 hblk9 hb9 hr9 HKEY HROW hkey0 hkey1 hrsz
    go_wp2_with fail
    refine HW10.out.mono ?_
    rintro e w10 ⟨rfl, r10, st10, sl10, kp10, own10⟩
    have hb10 : Below (w.heap.size + 2) w9 w10 := kp10.belowB (by omega) (by simp) hm9.size
    have hm10 := hm9.next hb10
    have hr10 : r10.ownBlock ≠ some 0 := fun e => by have := own10 0 e; have := hm9.size; omega
    have hr10' : ∀ b, r10.ownBlock = some b → w.heap.size + 2 ≤ b := fun b e => by have := own10 b e; have := hm9.size; omega
    have hw11 := write13 S2 0 32 (hsF h0F (turned (keyF kf klen) 92) 1) inn r10 (.slice (some ⟨H7, 0, none⟩) 32 32) 64 w10 st10 (sl10 inn) (.inr ⟨H7, 0, 32, rfl, by omega, fun j hj => by
      rw [World.cell?_of_block (w := w9) (a := ⟨H7, 0 + j, none⟩) (kp10.block H7 hs9 (by omega) (by simp)), HR9.out j hj]
      simp⟩) (by omega) (fun j => (HIN.out j).1) (fun j => (HIN.out j).2) (by omega) hm10.k0.cell hr10
    have HW11 := Lib.hid hw11
    clear hw11 hst4 hm9 hb10 sl10 HW10 kp10 own10 hr10
    go_wp2_with fail
    refine HW11.out.mono ?_
    rintro e w11 ⟨rfl, r11, st11, sl11, kp11, own11⟩
    have hb11 : Below (w.heap.size + 2) w10 w11 := kp11.belowB (by omega) hr10' hm10.size
    have hm11 := hm10.next hb11
    rw [wrap_len 32 (by omega) 64 (by omega) (by omega)] at st11
    have hs12 := sum14' S2 (S2 + 1) 0 32 (hsF h0F (turned (keyF kf klen) 92) 1) inn r11 (64 + ((32 : Nat) : Int)) w11 st11 sl11 (by omega) (by omega) (fun j => (HIN.out j).1) (fun j => (HIN.out j).2) (by omega) hm11.k0
    have HS12 := Lib.hid hs12
    clear hs12 hm10 hb11 HW11 kp11 own11 st10 st11 sl11 hr10'
    go_wp2_with fail
    refine HS12.out.mono ?_
    rintro e w12 ⟨rfl, hb12⟩
    have hm12 := hm11.below2 hb12
    have HRES := Lib.hid hm12.res
    have hbf : Below w.heap.size w (w12.setRow w.heap.size (bytesV 32 (macB (keyF kf klen) f len))) := Go.Proofs.YtgfkmbdipemgmaaDoor.below_setRow hm12.below (Nat.le_refl _) _
    have he : outF (hvF (hsF h0F (turned (keyF kf klen) 92) 1) inn 0 32 (64 + ((32 : Nat) : Int))) = macB (keyF kf klen) f len := HMAC.out.symm
    rw [he]
    clear hm11 hb12 HS12 hm12 he
    go_wp2_with (refine wpList_store_row rfl 25 _ _ rfl w.heap.size (bytesV 32 (macB (keyF kf klen) f len)) rfl rfl 25 _ HRES.out (HI.out _) (by rw [bytesV_size, bytesV_size]) (bytesV_one _ _) ?_)
    exact bodyPost_ret (v := .agg (bytesV 32 (macB (keyF kf klen) f len))) (results_cell_row Tryd.results10 _ _ w.heap.size 25 (bytesV 32 (macB (keyF kf klen) f len)) (0, 0) _ rfl (setRow_heap _ _ _ _ _ _ HRES.out) Tryd.underlying25 rfl (HI.out _)) rfl ⟨rfl, hbf⟩
end Go.Proofs.YtgfkmbdipemgmaaDoor
