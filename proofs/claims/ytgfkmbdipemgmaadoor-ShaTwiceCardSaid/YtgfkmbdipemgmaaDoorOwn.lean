/- The blocks that one call of piece makes for itself, and how each store changes what they hold. -/
import Derived.Test.YtgfkmbdipemgmaaDoorRows
import Derived.Test.YtgfkmbdipemgmaaDoorSpec
import Derived.WalkKit
import Derived.WalkSpells
import Derived.Deep.Draws
namespace Go.Proofs.YtgfkmbdipemgmaaDoor
open Go.RowKit

structure Own18 (B : Nat) (w wr : World) (h x : Nat → Int) : Prop where
  below : Below B w wr
  size : B + 2 < wr.heap.size
  box : ∀ j, j < 8 → wr.cell? ⟨B, j, none⟩ = some (.int .u32 (h j))
  boxf : ∀ j, wr.frozen? ⟨B, j, none⟩ = false
  res : ∀ j, j < 8 → wr.cell? ⟨B + 1, j, none⟩ = some (.int .u32 0)
  resf : ∀ j, wr.frozen? ⟨B + 1, j, none⟩ = false
  arr : ∀ j, j < 64 → wr.cell? ⟨B + 1 + 1, j, none⟩ = some (.int .u32 (x j))
  arrf : ∀ j, wr.frozen? ⟨B + 1 + 1, j, none⟩ = false

theorem frozen_setCell (w : World) (a b : Addr) (v : Value) : (w.setCell a v).frozen? b = w.frozen? b := by
  simp

theorem row_put {w : World} {b n i : Nat} {F : Int → Value} {x : Nat → Int} (v : Int) (h : ∀ j, j < n → w.cell? ⟨b, j, none⟩ = some (F (x j))) (hi : i < n) :
    ∀ j, j < n → (w.setCell ⟨b, i, none⟩ (F v)).cell? ⟨b, j, none⟩ = some (F (if j = i then v else x j)) := by
  intro j hj
  by_cases e : j = i
  · subst e; rw [if_pos rfl]; exact World.cell?_setCell_same w _ _ (h j hj)
  · rw [if_neg e, World.cell?_setCell_other w _ _ _ (by simp)]; exact h j hj

theorem Own18.put {B : Nat} {w wr : World} {h x : Nat → Int} (o : Own18 B w wr h x) (i : Nat) (v : Int) (hi : i < 64) :
    Own18 B w (wr.setCell ⟨B + 1 + 1, i, none⟩ (.int .u32 v)) h (fun j => if j = i then v else x j) where
  below := o.below.setCell (by simp; omega) _
  size := by have := o.size; simp; omega
  box := fun j hj => by rw [World.cell?_setCell_other wr _ _ _ (by simp)]; exact o.box j hj
  boxf := fun j => by rw [frozen_setCell]; exact o.boxf j
  res := fun j hj => by rw [World.cell?_setCell_other wr _ _ _ (by simp)]; exact o.res j hj
  resf := fun j => by rw [frozen_setCell]; exact o.resf j
  arr := row_put (F := fun n => .int .u32 n) v o.arr hi
  arrf := fun j => by rw [frozen_setCell]; exact o.arrf j

theorem Own18.putBox {B : Nat} {w wr : World} {h x : Nat → Int} (o : Own18 B w wr h x) (i : Nat) (v : Int) (hi : i < 8) :
    Own18 B w (wr.setCell ⟨B, i, none⟩ (.int .u32 v)) (fun j => if j = i then v else h j) x where
  below := o.below.setCell (by simp) _
  size := by have := o.size; simp; omega
  box := row_put (F := fun n => .int .u32 n) v o.box hi
  boxf := fun j => by rw [frozen_setCell]; exact o.boxf j
  res := fun j hj => by rw [World.cell?_setCell_other wr _ _ _ (by simp)]; exact o.res j hj
  resf := fun j => by rw [frozen_setCell]; exact o.resf j
  arr := fun j hj => by rw [World.cell?_setCell_other wr _ _ _ (by simp)]; exact o.arr j hj
  arrf := fun j => by rw [frozen_setCell]; exact o.arrf j

theorem Own18.drew {B : Nat} {w wr : World} {h x : Nat → Int} (o : Own18 B w wr h x) : Own18 B w wr.drew h x where
  below := o.below.drew
  size := o.size
  box := o.box
  boxf := o.boxf
  res := o.res
  resf := o.resf
  arr := o.arr
  arrf := o.arrf

theorem Own18.drewN {B : Nat} {w wr : World} {h x : Nat → Int} (o : Own18 B w wr h x) (n : Nat) : Own18 B w (wr.drewN n) h x where
  below := ⟨o.below.os, o.below.tape, o.below.output, o.below.size, o.below.block⟩
  size := o.size
  box := o.box
  boxf := o.boxf
  res := o.res
  resf := o.resf
  arr := o.arr
  arrf := o.arrf

theorem Own18.congr {B : Nat} {w wr : World} {h x h' x' : Nat → Int} (o : Own18 B w wr h x) (e : ∀ j, j < 8 → h j = h' j) (f : ∀ j, j < 64 → x j = x' j) : Own18 B w wr h' x' where
  below := o.below
  size := o.size
  box := fun j hj => by rw [← e j hj]; exact o.box j hj
  boxf := o.boxf
  res := o.res
  resf := o.resf
  arr := fun j hj => by rw [← f j hj]; exact o.arr j hj
  arrf := o.arrf

/-- The array of words, as far as k of them are there. -/
def x1 (p : Nat → Int) (k j : Nat) : Int := if j < k then wd p j else 0
/-- The eight words, as far as k of them have been added to. -/
def hb (h p : Nat → Int) (k j : Nat) : Int := if j < k then pieceF h p j else h j

theorem Own18.word {B : Nat} {w wr : World} {h p : Nat → Int} {k : Nat} (o : Own18 B w wr h (x1 p k)) (hk : k < 64) (v : Int) (hv : v = wd p k) :
    Own18 B w (wr.setCell ⟨B + 1 + 1, k, none⟩ (.int .u32 v)) h (x1 p (k + 1)) :=
  (o.put k v hk).congr (fun _ _ => rfl) (fun j _ => by
    unfold x1
    by_cases e : j = k
    · subst e; rw [if_pos rfl, if_pos (by omega), hv]
    · rw [if_neg e]
      by_cases l : j < k
      · rw [if_pos l, if_pos (by omega)]
      · rw [if_neg l, if_neg (by omega)])

theorem Own18.added {B : Nat} {w wr : World} {h p x : Nat → Int} {k : Nat} (o : Own18 B w wr (hb h p k) x) (hk : k < 8) (v : Int) (hv : v = pieceF h p k) :
    Own18 B w (wr.setCell ⟨B, k, none⟩ (.int .u32 v)) (hb h p (k + 1)) x :=
  (o.putBox k v hk).congr (fun j _ => by
    unfold hb
    by_cases e : j = k
    · subst e; rw [if_pos rfl, if_pos (by omega), hv]
    · rw [if_neg e]
      by_cases l : j < k
      · rw [if_pos l, if_pos (by omega)]
      · rw [if_neg l, if_neg (by omega)]) (fun _ _ => rfl)

theorem u32_wrap_byte (x : Int) (h0 : 0 ≤ x) (h1 : x ≤ 255) : IntKind.u32.wrap x = x ∧ IntKind.u32.wrap (x * 16777216) = x * 16777216 ∧ IntKind.u32.wrap (x * 65536) = x * 65536 ∧ IntKind.u32.wrap (x * 256) = x * 256 :=
  ⟨IntWalk.u32_in _ (by omega), IntWalk.u32_in _ (by omega), IntWalk.u32_in _ (by omega), IntWalk.u32_in _ (by omega)⟩
theorem idx4 (k len : Nat) (hk : k < 16) (hl : 64 ≤ len) (i : Nat) (hi : i < 4) : IntKind.i64.wrap (4 * (k : Int) + (i : Int)) = 4 * (k : Int) + (i : Int) ∧ 0 ≤ 4 * (k : Int) + (i : Int) ∧ (4 * (k : Int) + (i : Int)).toNat = 4 * k + i ∧ 4 * (k : Int) + (i : Int) < (len : Int) :=
  ⟨IntWalk.i64_in _ (by omega), by omega, by omega, by omega⟩
theorem idxm (k i : Nat) (hk : k < 64) (h : 16 ≤ k) (hi : i ≤ 16) : IntKind.i64.wrap ((k : Int) - (i : Int)) = (k : Int) - (i : Int) ∧ 0 ≤ (k : Int) - (i : Int) ∧ ((k : Int) - (i : Int)).toNat = k - i ∧ (k : Int) - (i : Int) < 64 :=
  ⟨IntWalk.i64_in _ (by omega), by omega, by omega, by omega⟩

theorem block3 (w : World) (o1 o2 o3 : Obj) : (((w.alloc o1).alloc o2).alloc o3).heap[w.heap.size]? = some o1 ∧ (((w.alloc o1).alloc o2).alloc o3).heap[w.heap.size + 1]? = some o2 ∧ (((w.alloc o1).alloc o2).alloc o3).heap[w.heap.size + 1 + 1]? = some o3 := by
  have e : (((w.alloc o1).alloc o2).alloc o3).heap = ((w.heap.push o1).push o2).push o3 := rfl
  rw [e]
  refine ⟨?_, ?_, ?_⟩
  · rw [Array.getElem?_push, if_neg (by simp; omega), Array.getElem?_push, if_neg (by simp), Array.getElem?_push, if_pos rfl]
  · rw [Array.getElem?_push, if_neg (by simp), Array.getElem?_push, if_pos (by simp)]
  · rw [Array.getElem?_push, if_pos (by simp)]

theorem Own18.start (w : World) (h : Nat → Int) (A B C : Array Value) (t1 t2 t3 : TypeId) (hA : ∀ j, j < 8 → A[j]? = some (.int .u32 (h j))) (hB : ∀ j, j < 8 → B[j]? = some (.int .u32 0)) (hC : ∀ j, j < 64 → C[j]? = some (.int .u32 0)) :
    Own18 w.heap.size w (((w.alloc (.cells A t1)).alloc (.cells B t2)).alloc (.cells C t3)) h (fun _ => 0) := by
  obtain ⟨e1, e2, e3⟩ := block3 w (.cells A t1) (.cells B t2) (.cells C t3)
  refine ⟨(((Below.refl _ _).alloc (Nat.le_refl _) _).alloc (by simp) _).alloc (by simp; omega) _, by simp, ?_, ?_, ?_, ?_, ?_, ?_⟩
  · intro j hj; simp only [World.cell?]; rw [e1]; exact hA j hj
  · intro j; simp only [World.frozen?]; rw [e1]; simp
  · intro j hj; simp only [World.cell?]; rw [e2]; exact hB j hj
  · intro j; simp only [World.frozen?]; rw [e2]; simp
  · intro j hj; simp only [World.cell?]; rw [e3]; exact hC j hj
  · intro j; simp only [World.frozen?]; rw [e3]; simp
end Go.Proofs.YtgfkmbdipemgmaaDoor
