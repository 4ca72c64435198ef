/- Two slices of the call's own that grow side by side, and what a text of two parts comes to. -/
import Derived.Test.YtgfkmbdipemgmaaDoorRefSum
namespace Go.Proofs.YtgfkmbdipemgmaaDoor
open Go Go.RowKit

/-- 64 bytes ahead of a text. -/
def cat64 (T f : Nat → Int) (j : Nat) : Int := if j < 64 then T j else f (j - 64)

theorem sumF_cat (T f : Nat → Int) (len : Nat) (n : Int) (hn : n = 64 + (len : Int)) : sumF (cat64 T f) (64 + len) = outF (hvF (hsF h0F T 1) f 0 len n) := by
  have e1 : ((64 + len : Nat) : Int) = n := by omega
  rw [← sumF_whole, ← hvF_whole, e1]
  have hz : zer (64 + len) = zer len := by unfold zer; rw [show (64 + len) % 64 = len % 64 by omega]
  rw [hz, show (64 + len + 9 + zer len) / 64 = 1 + (len + 9 + zer len) / 64 by omega, hsF_add]
  rw [hsF_congr h0F (c := padF (cat64 T f) (64 + len) n) (d := T) 1 (fun j hj => by rw [padF_lo (by omega)]; exact if_pos (by omega))]
  have e2 : (fun j => padF (cat64 T f) (64 + len) n (64 * 1 + j)) = padF f len n := by
    funext j
    rw [padF_shift (cat64 T f) (64 + len) 1 n (by omega) j, show 64 + len - 64 * 1 = len by omega]
    have e3 : (fun j => cat64 T f (64 * 1 + j)) = f := by
      funext j
      unfold cat64
      rw [if_neg (by omega), show 64 * 1 + j - 64 = j by omega]
    rw [e3]
  rw [e2]

theorem macB_cat (k f : Nat → Int) (len : Nat) : sumF (cat64 (turned k 92) (sumF (cat64 (turned k 54) f) (64 + len))) (64 + 32) = macB k f len := by
  rw [sumF_cat _ _ 32 96 (by omega), sumF_cat _ _ len (64 + (len : Int)) rfl]
  rfl

theorem cat64_nonneg {T f : Nat → Int} (h : ∀ j, 0 ≤ T j) (g : ∀ j, 0 ≤ f j) (j : Nat) : 0 ≤ cat64 T f j := by
  unfold cat64; split
  · exact h _
  · exact g _
theorem cat64_le {T f : Nat → Int} (h : ∀ j, T j ≤ 255) (g : ∀ j, f j ≤ 255) (j : Nat) : cat64 T f j ≤ 255 := by
  unfold cat64; split
  · exact h _
  · exact g _

theorem sumF_bd (f : Nat → Int) (len j : Nat) : 0 ≤ sumF f len j ∧ sumF f len j ≤ 255 := outF_bd _ j

theorem joined_cat (T f : Nat → Int) (j : Nat) : joined 64 (byte T) (byte f) j = byte (cat64 T f) j := by
  unfold joined byte cat64
  by_cases h : j < 64
  · rw [if_pos h, if_pos h]
  · rw [if_neg h, if_neg h]

theorem Sl.rx {w : World} {lo n : Nat} {v : Value} {f : Nat → Int} (h : Sl w lo v n (byte f)) : Rx w v n f := by
  rcases h with ⟨rfl, rfl⟩ | ⟨g, off, cap, rfl, h1, h1', h2, h2', h3, h4, h5⟩
  · exact .inl ⟨rfl, rfl⟩
  · exact .inr ⟨g, off, cap, rfl, h1', h5⟩

theorem Rx.congr {w : World} {x : Value} {n : Nat} {f g : Nat → Int} (h : Rx w x n f) (e : ∀ j, j < n → f j = g j) : Rx w x n g := by
  rcases h with h | ⟨b, off, cap, rfl, h1, h2⟩
  · exact .inl h
  · exact .inr ⟨b, off, cap, rfl, h1, fun j hj => by rw [h2 j hj]; unfold byte; rw [e j hj]⟩

/-- Two slices, in blocks of their own from lo on. -/
structure Xy (lo : Nat) (w7 wr : World) (vx vy : Value) (i j : Nat) (X Y : Nat → Int) : Prop where
  slx : Sl wr lo vx i (byte X)
  sly : Sl wr lo vy j (byte Y)
  ne : ∀ b, vx.ownBlock = some b → vy.ownBlock ≠ some b
  below : Below lo w7 wr
  le : lo ≤ wr.heap.size

theorem Xy.flip {lo : Nat} {w7 wr : World} {vx vy : Value} {i j : Nat} {X Y : Nat → Int} (h : Xy lo w7 wr vx vy i j X Y) : Xy lo w7 wr vy vx j i Y X :=
  ⟨h.sly, h.slx, fun b hb e => h.ne b e hb, h.below, h.le⟩

/-- Behind an append to the first. -/
theorem Xy.grown {lo : Nat} {w7 wr w' : World} {vx vy v' : Value} {i j n : Nat} {X X' Y : Nat → Int} (h : Xy lo w7 wr vx vy i j X Y) (hs : Sl w' lo v' n (byte X')) (hg : wr.grownBy w' vx.ownBlock)
    (ho : ∀ b, v'.ownBlock = some b → vx.ownBlock = some b ∨ wr.heap.size ≤ b) : Xy lo w7 w' v' vy n j X' Y :=
  ⟨hs, h.sly.kept (Nat.le_refl _) hg.size (fun k hk => hg.block k (h.sly.block k hk).2 (fun e => h.ne k e.symm hk)), fun b hb e => by
      rcases ho b hb with h1 | h1
      · exact h.ne b h1 e
      · have := (h.sly.block b e).2; omega,
    h.below.grown hg h.le (fun k hk => (h.slx.block k hk).1), Nat.le_trans h.le hg.size⟩

/-- Behind whatever leaves what was there. -/
theorem Xy.after {lo : Nat} {w7 wr w' : World} {vx vy : Value} {i j : Nat} {X Y : Nat → Int} (h : Xy lo w7 wr vx vy i j X Y) (hb : Below wr.heap.size wr w') : Xy lo w7 w' vx vy i j X Y :=
  ⟨h.slx.kept (Nat.le_refl _) hb.size (fun k hk => hb.block k (h.slx.block k hk).2), h.sly.kept (Nat.le_refl _) hb.size (fun k hk => hb.block k (h.sly.block k hk).2), h.ne,
    h.below.trans (hb.mono h.le), Nat.le_trans h.le hb.size⟩

/-- An append of one byte that has just been laid into a block of its own: what it keeps, said closely. -/
theorem wpList_append_byte2 {ops : Array Oper} {rest : List Oper} {o : Oper} {a : Act} {W : World} {Q : Exit → Act → World → Prop} (hgd : o.guard = none) (s y : Operand)
    (ho : o.op = .call { callee := .builtin .append, args := #[s, y], argTypes := #[22, 22] }) {lo m : Nat} {v : Value} {e : Nat → Int} {b : Int}
    (hv : a.eval s = v) (hy : a.eval y = .slice (some ⟨W.heap.size, 0, none⟩) 1 1) (hs : Sl W lo v m (byte e)) (hb : b = e m) (hlen : m + 1 ≤ 140737488355328) (hlo : lo ≤ W.heap.size)
    (h : ∀ v' w', Sl w' lo v' (m + 1) (byte e) → W.grownBy w' v.ownBlock → (∀ b, v'.ownBlock = some b → v.ownBlock = some b ∨ W.heap.size ≤ b) → wpList Tryd.prog ops Q rest (a.put o.dst v') w') :
    wpList Tryd.prog ops Q (o :: rest) a (W.alloc (.cells #[.int .u8 b] 5)) := by
  obtain ⟨i5, hi5, hz0, hz1, hz2⟩ := info_parts info5
  have hsz : (W.alloc (.cells #[.int .u8 b] 5)).heap.size = W.heap.size + 1 := by simp
  have hsrc : Src Tryd.prog 1 22 (.slice (some ⟨W.heap.size, 0, none⟩) 1 1) 1 (cellsOf 1 (fun _ => .int .u8 b)) (W.alloc (.cells #[.int .u8 b] 5)) :=
    src_slice Tryd.underlying22 W.heap.size 0 1 1 _ (fun j hj => by
      have : j = 0 := by omega
      subst this
      rw [cell_of_row _ _ _ _ _ _ (heap_alloc_new W _)]; rfl) (fun _ _ => rfl)
  refine wpList_append_sl (lo := lo) (m := m) (n := 1) (r := byte e) (q := fun _ => .int .u8 b) (v := v) (x := .slice (some ⟨W.heap.size, 0, none⟩) 1 1) hgd s y 22 22 ho 5 i5 (.int .u8 0) 1 Tryd.underlying22 hi5 hz0 rfl hz1 hz2 hv hy (hs.alloc _) hsrc (fun j _ => byte_one e j) (by omega) (by omega) (by omega) ?_
  intro v' w' h1 h2 h3
  refine h v' w' (h1.congr (fun j hj => ?_)) ⟨h2.os, h2.tape, h2.output, by have := h2.size; omega, fun k hk hne => (h2.block k (by omega) hne).trans (Below.heap_alloc W _ k hk)⟩ (fun b' hb' => ?_)
  · unfold joined
    by_cases hjm : j < m
    · rw [if_pos hjm]
    · rw [if_neg hjm]
      have : j = m := by omega
      subst this
      unfold byte
      rw [hb]
  · rcases h3 with h3 | h3
    · exact .inl (by rw [← h3]; exact hb')
    · rw [hb'] at h3
      have : b' = (W.alloc (.cells #[.int .u8 b] 5)).heap.size := by simpa using h3
      exact .inr (by omega)
end Go.Proofs.YtgfkmbdipemgmaaDoor
