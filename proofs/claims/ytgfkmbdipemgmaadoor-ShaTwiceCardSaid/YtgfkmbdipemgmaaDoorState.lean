/- The state that takes bytes piece by piece, as it lies in memory, and what it keeps of everything else. -/
import Derived.Test.YtgfkmbdipemgmaaDoorRows
import Derived.Test.YtgfkmbdipemgmaaDoorRowsOf
import Derived.Test.YtgfkmbdipemgmaaDoorSl
import Derived.Test.YtgfkmbdipemgmaaDoorSteps
namespace Go.Proofs.YtgfkmbdipemgmaaDoor
open Go Go.RowKit

def byte (f : Nat → Int) (j : Nat) : Value := .int .u8 (f j)
theorem byte_one (f : Nat → Int) (j : Nat) : (byte f j).oneCell' = true := rfl

def stCells (h : Nat → Int) (rest : Value) (n : Int) : Array Value :=
  #[.int .u32 (h 0), .int .u32 (h 1), .int .u32 (h 2), .int .u32 (h 3), .int .u32 (h 4), .int .u32 (h 5), .int .u32 (h 6), .int .u32 (h 7), rest, .int .u64 n]

/-- Block S is a state. -/
def StB (w : World) (S : Nat) (h : Nat → Int) (rest : Value) (n : Int) : Prop := w.heap[S]? = some (.cells (stCells h rest n) 46 (0, 0))

/-- All but block S and the block x is as it was. -/
structure Keeps (w w' : World) (S : Nat) (x : Option Nat) : Prop where
  os : w'.os = w.os
  tape : w'.tape = w.tape
  output : w'.output = w.output
  size : w.heap.size ≤ w'.heap.size
  block : ∀ b, b < w.heap.size → b ≠ S → some b ≠ x → w'.heap[b]? = w.heap[b]?

theorem Keeps.refl (w : World) (S : Nat) (x : Option Nat) : Keeps w w S x := ⟨rfl, rfl, rfl, Nat.le_refl _, fun _ _ _ _ => rfl⟩
theorem Keeps.below {w w1 w2 : World} {S : Nat} {x : Option Nat} (h : Keeps w w1 S x) (b : Below w1.heap.size w1 w2) : Keeps w w2 S x :=
  ⟨b.os.trans h.os, b.tape.trans h.tape, b.output.trans h.output, Nat.le_trans h.size b.size, fun k hk h1 h2 => (b.block k (Nat.lt_of_lt_of_le hk h.size)).trans (h.block k hk h1 h2)⟩
theorem Keeps.setCell {w w1 : World} {S : Nat} {x : Option Nat} (h : Keeps w w1 S x) (i : Nat) (v : Value) : Keeps w (w1.setCell ⟨S, i, none⟩ v) S x :=
  ⟨h.os, h.tape, h.output, by have := h.size; simp; exact this, fun k hk h1 h2 => by rw [heap_setCell_other w1 _ _ _ h1]; exact h.block k hk h1 h2⟩
theorem Keeps.drewN {w w1 : World} {S : Nat} {x : Option Nat} (h : Keeps w w1 S x) (n : Nat) : Keeps w (w1.drewN n) S x :=
  ⟨h.os, h.tape, h.output, h.size, h.block⟩
theorem Keeps.grown {w w1 w2 : World} {S : Nat} {x y : Option Nat} (h : Keeps w w1 S x) (g : w1.grownBy w2 y) (hy : ∀ k, y = some k → x = some k ∨ w.heap.size ≤ k) : Keeps w w2 S x :=
  ⟨g.os.trans h.os, g.tape.trans h.tape, g.output.trans h.output, Nat.le_trans h.size g.size, fun k hk h1 h2 => by
    rw [g.block k (Nat.lt_of_lt_of_le hk h.size) (fun e => by
      rcases hy k e.symm with e' | e'
      · exact h2 e'.symm
      · omega)]
    exact h.block k hk h1 h2⟩

theorem StB.cell {w : World} {S : Nat} {h : Nat → Int} {rest : Value} {n : Int} (s : StB w S h rest n) (j : Nat) : w.cell? ⟨S, j, none⟩ = (stCells h rest n)[j]? := cell_of_row w S j _ _ _ s
theorem StB.free {w : World} {S : Nat} {h : Nat → Int} {rest : Value} {n : Int} (s : StB w S h rest n) (j : Nat) : w.frozen? ⟨S, j, none⟩ = false := frozen_of_row w S j _ _ s
theorem StB.lt {w : World} {S : Nat} {h : Nat → Int} {rest : Value} {n : Int} (s : StB w S h rest n) : S < w.heap.size := (Array.getElem?_eq_some_iff.1 s).1
theorem StB.setN {w : World} {S : Nat} {h : Nat → Int} {rest : Value} {n : Int} (s : StB w S h rest n) (n' : Int) : StB (w.setCell ⟨S, 9, none⟩ (.int .u64 n')) S h rest n' :=
  heap_setCell_same w S 9 _ _ _ s
theorem StB.setRest {w : World} {S : Nat} {h : Nat → Int} {rest : Value} {n : Int} (s : StB w S h rest n) (rest' : Value) : StB (w.setCell ⟨S, 8, none⟩ rest') S h rest' n :=
  heap_setCell_same w S 8 _ _ _ s
theorem StB.kept {w w' : World} {S : Nat} {h : Nat → Int} {rest : Value} {n : Int} (s : StB w S h rest n) (e : w'.heap[S]? = w.heap[S]?) : StB w' S h rest n := by unfold StB; rw [e]; exact s

/-- The world behind a store of eight words. -/
def setH (w : World) (S : Nat) (g : Nat → Int) : World :=
  (((((((w.setCell ⟨S, 0, none⟩ (.int .u32 (g 0))).setCell ⟨S, 1, none⟩ (.int .u32 (g 1))).setCell ⟨S, 2, none⟩ (.int .u32 (g 2))).setCell ⟨S, 3, none⟩ (.int .u32 (g 3))).setCell ⟨S, 4, none⟩ (.int .u32 (g 4))).setCell ⟨S, 5, none⟩ (.int .u32 (g 5))).setCell ⟨S, 6, none⟩ (.int .u32 (g 6))).setCell ⟨S, 7, none⟩ (.int .u32 (g 7))

theorem StB.setH {w : World} {S : Nat} {h : Nat → Int} {rest : Value} {n : Int} (s : StB w S h rest n) (g : Nat → Int) : StB (setH w S g) S g rest n := by
  unfold StB at s ⊢
  have s0 := heap_setCell_same _ S 0 _ _ (.int .u32 (g 0)) s
  have s1 := heap_setCell_same _ S 1 _ _ (.int .u32 (g 1)) s0
  have s2 := heap_setCell_same _ S 2 _ _ (.int .u32 (g 2)) s1
  have s3 := heap_setCell_same _ S 3 _ _ (.int .u32 (g 3)) s2
  have s4 := heap_setCell_same _ S 4 _ _ (.int .u32 (g 4)) s3
  have s5 := heap_setCell_same _ S 5 _ _ (.int .u32 (g 5)) s4
  have s6 := heap_setCell_same _ S 6 _ _ (.int .u32 (g 6)) s5
  have s7 := heap_setCell_same _ S 7 _ _ (.int .u32 (g 7)) s6
  unfold Go.Proofs.YtgfkmbdipemgmaaDoor.setH
  rw [s7]
  simp [stCells]

theorem Keeps.setH {w w1 : World} {S : Nat} {x : Option Nat} (h : Keeps w w1 S x) (g : Nat → Int) : Keeps w (Go.Proofs.YtgfkmbdipemgmaaDoor.setH w1 S g) S x :=
  (((((((h.setCell 0 _).setCell 1 _).setCell 2 _).setCell 3 _).setCell 4 _).setCell 5 _).setCell 6 _).setCell 7 _

theorem heap_setH (w : World) (S : Nat) (g : Nat → Int) (k : Nat) (h : k ≠ S) : (setH w S g).heap[k]? = w.heap[k]? := by
  unfold setH
  rw [heap_setCell_other _ _ _ _ h, heap_setCell_other _ _ _ _ h, heap_setCell_other _ _ _ _ h, heap_setCell_other _ _ _ _ h, heap_setCell_other _ _ _ _ h, heap_setCell_other _ _ _ _ h, heap_setCell_other _ _ _ _ h, heap_setCell_other _ _ _ _ h]

theorem size_setH (w : World) (S : Nat) (g : Nat → Int) : (setH w S g).heap.size = w.heap.size := by
  unfold setH; simp

/-- x is a slice of len bytes that can be read, none of them in block S. -/
def Rd (w : World) (S : Nat) (x : Value) (len : Nat) (f : Nat → Int) : Prop :=
  (x = .slice none 0 0 ∧ len = 0) ∨ ∃ b off cap, x = .slice (some ⟨b, off, none⟩) len cap ∧ b ≠ S ∧ ∀ j, j < len → w.cell? ⟨b, off + j, none⟩ = some (byte f j)

theorem Rd.form {w : World} {S len : Nat} {x : Value} {f : Nat → Int} (h : Rd w S x len f) : ∃ a cap, x = .slice a len cap := by
  rcases h with ⟨rfl, rfl⟩ | ⟨b, off, cap, rfl, _⟩
  · exact ⟨_, _, rfl⟩
  · exact ⟨_, _, rfl⟩

theorem Rd.src {w w' : World} {S len : Nat} {x : Value} {f : Nat → Int} (h : Rd w S x len f) (e : ∀ b o, b ≠ S → w'.cell? ⟨b, o, none⟩ = w.cell? ⟨b, o, none⟩) : Src Tryd.prog 1 22 x len (cellsOf len (byte f)) w' := by
  rcases h with ⟨rfl, rfl⟩ | ⟨b, off, cap, rfl, hb, hc⟩
  · exact Src.ofNil w' Tryd.underlying22 0
  · exact src_slice Tryd.underlying22 b off len cap (byte f) (fun j hj => by rw [e b _ hb]; exact hc j hj) (fun j _ => byte_one f j)

theorem joined_byte {m n : Nat} (c : Nat → Int) : ∀ j, j < m + n → joined m (byte c) (byte (fun j => c (m + j))) j = byte c j := by
  intro j hj
  unfold joined byte
  by_cases h : j < m
  · rw [if_pos h]
  · rw [if_neg h]
    show Value.int .u8 (c (m + (j - m))) = _
    rw [show m + (j - m) = j by omega]

theorem info46 : (Tryd.prog.info? 46).map (·.size) = some 10 := by kernel_rfl
theorem info5 : (Tryd.prog.info? 5).map (fun i => (i.zero, i.size, i.bytes)) = some (some (.int .u8 0), 1, 1) := by kernel_rfl
theorem info36 : (Tryd.prog.info? 36).map (fun i => (i.zero, i.size, i.bytes)) = some (some (.int .u32 0), 1, 4) := by kernel_rfl

theorem Sl.empty (w : World) (lo g off : Nat) (r : Nat → Value) (hlo : lo ≤ g) (hg : g < w.heap.size) : Sl w lo (.slice (some ⟨g, off, none⟩) 0 0) 0 r :=
  .inr ⟨g, off, 0, rfl, hlo, hg, Nat.le_refl _, Nat.zero_le _, fun j hj => by omega, fun j hj => by omega, fun j hj => by omega⟩

theorem Sl.alloc {w : World} {lo m : Nat} {v : Value} {r : Nat → Value} (h : Sl w lo v m r) (o : Obj) : Sl (w.alloc o) lo v m r :=
  h.kept (Nat.le_refl _) (by simp) (fun k hk => Below.heap_alloc w o k (h.block k hk).2)

theorem Sl.drewN {w : World} {lo m : Nat} {v : Value} {r : Nat → Value} (h : Sl w lo v m r) (n : Nat) : Sl (w.drewN n) lo v m r :=
  h.kept (Nat.le_refl _) (Nat.le_refl _) (fun _ _ => rfl)

/-- An append of one byte that has just been laid into a block of its own. -/
theorem wpList_append_byte {ops : Array Oper} {rest : List Oper} {o : Oper} {a : Act} {W : World} {Q : Exit → Act → World → Prop} (hgd : o.guard = none) (s y : Operand)
    (ho : o.op = .call { callee := .builtin .append, args := #[s, y], argTypes := #[22, 22] }) {lo m : Nat} {v : Value} {e : Nat → Int} {b : Int} {w1 : World}
    (hv : a.eval s = v) (hy : a.eval y = .slice (some ⟨W.heap.size, 0, none⟩) 1 1) (hs : Sl W lo v m (byte e)) (hB : Below lo w1 W) (hb : b = e m) (hlen : m + 1 ≤ 140737488355328) (hlo : lo ≤ W.heap.size)
    (h : ∀ v' w', Sl w' lo v' (m + 1) (byte e) → Below lo w1 w' → W.heap.size ≤ w'.heap.size → wpList Tryd.prog ops Q rest (a.put o.dst v') w') :
    wpList Tryd.prog ops Q (o :: rest) a (W.alloc (.cells #[.int .u8 b] 5)) := by
  obtain ⟨i5, hi5, hz0, hz1, hz2⟩ := info_parts info5
  have hsz : (W.alloc (.cells #[.int .u8 b] 5)).heap.size = W.heap.size + 1 := by simp
  have hsrc : Src Tryd.prog 1 22 (.slice (some ⟨W.heap.size, 0, none⟩) 1 1) 1 (cellsOf 1 (fun _ => .int .u8 b)) (W.alloc (.cells #[.int .u8 b] 5)) :=
    src_slice Tryd.underlying22 W.heap.size 0 1 1 _ (fun j hj => by
      have : j = 0 := by omega
      subst this
      rw [cell_of_row _ _ _ _ _ _ (heap_alloc_new W _)]; rfl) (fun _ _ => rfl)
  refine wpList_append_sl (lo := lo) (m := m) (n := 1) (r := byte e) (q := fun _ => .int .u8 b) (v := v) (x := .slice (some ⟨W.heap.size, 0, none⟩) 1 1) hgd s y 22 22 ho 5 i5 (.int .u8 0) 1 Tryd.underlying22 hi5 hz0 rfl hz1 hz2 hv hy (hs.alloc _) hsrc (fun j _ => byte_one e j) (by omega) (by omega) (by omega) ?_
  intro v' w' h1 h2 _
  refine h v' w' (h1.congr (fun j hj => ?_)) ((hB.alloc hlo _).grown h2 (by omega) (fun k hk => (hs.block k hk).1)) (by have := h2.size; omega)
  unfold joined
  by_cases hjm : j < m
  · rw [if_pos hjm]
  · rw [if_neg hjm]
    have : j = m := by omega
    subst this
    unfold byte
    rw [hb]
end Go.Proofs.YtgfkmbdipemgmaaDoor
