/- Rows of bytes and of words, said whole: a function of the place. -/
import Derived.Test.YtgfkmbdipemgmaaDoorSpec
import Derived.WalkKit
import Derived.WalkSpells
namespace Go.Proofs.YtgfkmbdipemgmaaDoor
open Go.RowKit

/-- n bytes, as cells. -/
def bytesV (n : Nat) (f : Nat → Int) : Array Value := ((List.range n).map fun j => Value.int .u8 (f j)).toArray

theorem bytesV_size (n : Nat) (f : Nat → Int) : (bytesV n f).size = n := by simp [bytesV]

theorem bytesV_get {n : Nat} {f : Nat → Int} {j : Nat} (h : j < n) : (bytesV n f)[j]? = some (.int .u8 (f j)) := by
  simp [bytesV, h]

theorem bytesV_congr {n : Nat} {f g : Nat → Int} (h : ∀ j, j < n → f j = g j) : bytesV n f = bytesV n g := by
  unfold bytesV
  congr 1
  apply List.map_congr_left
  intro j hj
  rw [h j (List.mem_range.1 hj)]

theorem bytesV_none {n : Nat} {f : Nat → Int} {j : Nat} (h : ¬ j < n) : (bytesV n f)[j]? = none := by
  rw [Array.getElem?_eq_none (by rw [bytesV_size]; omega)]

theorem bytesV_set (n : Nat) (f : Nat → Int) (i : Nat) (v : Int) : (bytesV n f).setIfInBounds i (.int .u8 v) = bytesV n (fun j => if j = i then v else f j) := by
  apply Array.ext_getElem?
  intro j
  rw [Array.getElem?_setIfInBounds, bytesV_size]
  by_cases hj : j < n
  · rw [bytesV_get hj]
    by_cases e : i = j
    · subst e; rw [if_pos rfl, if_pos hj, bytesV_get hj, if_pos rfl]
    · have e' : ¬ j = i := fun h => e h.symm
      rw [if_neg e, bytesV_get hj, if_neg e']
  · rw [bytesV_none hj]
    by_cases e : i = j
    · subst e; rw [if_pos rfl, if_neg hj, bytesV_none hj]
    · rw [if_neg e, bytesV_none hj]

theorem bytesV_one (n : Nat) (f : Nat → Int) : (bytesV n f).all (·.oneCell') = true := by
  simp [bytesV, Value.oneCell']

theorem below_setRow {B : Nat} {a w : World} (h : Below B a w) {g : Nat} (hg : B ≤ g) (cs : Array Value) : Below B a (w.setRow g cs) :=
  h.trans ⟨rfl, rfl, rfl, by simp, fun k hk => setRow_other w g k cs (by omega)⟩
end Go.Proofs.YtgfkmbdipemgmaaDoor
