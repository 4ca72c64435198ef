/- What the reference's word and constant hand back, and the worlds that only grew. -/
import Derived.Test.YtgfkmbdipemgmaaDoorRot
import Derived.Test.YtgfkmbdipemgmaaDoorOwn
namespace Go.Proofs.YtgfkmbdipemgmaaDoor
open Go Go.RowKit

/-- A world in which all that was there stands as it stood. -/
structure Ext (w : World) where
  val : World
  below : Below w.heap.size w val

instance extNonempty (w : World) : Nonempty (Ext w) := ⟨⟨w, Below.refl _ _⟩⟩

theorem Ext.cell {w : World} (e : Ext w) (b o : Nat) (h : b < w.heap.size) : e.val.cell? ⟨b, o, none⟩ = w.cell? ⟨b, o, none⟩ := e.below.cell h

def Ext.next {w : World} (e : Ext w) {w' : World} (h : Below e.val.heap.size e.val w') : Ext w := ⟨w', e.below.trans (h.mono e.below.size)⟩

set_option maxHeartbeats 400000 in
theorem word20 (b off len cap a : Nat) (p0 p1 p2 p3 : Int) (w : World) (ha : a + 4 ≤ len) (hl : len ≤ 9223372036854775807)
    (c0 : w.cell? ⟨b, off + a, none⟩ = some (.int .u8 p0)) (c1 : w.cell? ⟨b, off + (a + 1), none⟩ = some (.int .u8 p1)) (c2 : w.cell? ⟨b, off + (a + 2), none⟩ = some (.int .u8 p2)) (c3 : w.cell? ⟨b, off + (a + 3), none⟩ = some (.int .u8 p3))
    (l0 : 0 ≤ p0) (u0 : p0 ≤ 255) (l1 : 0 ≤ p1) (u1 : p1 ≤ 255) (l2 : 0 ≤ p2) (u2 : p2 ≤ 255) (l3 : 0 ≤ p3) (u3 : p3 ≤ 255) :
    Calls Tryd.prog 20 #[.slice (some ⟨b, off, none⟩) len cap, .int .i64 (a : Int)] w fun e w' => e = .returned (.int .u32 (be32 p0 p1 p2 p3)) ∧ ∃ n, w' = w.drewN n := by
  have e0 := u32_wrap_byte p0 l0 u0
  have e1 := u32_wrap_byte p1 l1 u1
  have e2 := u32_wrap_byte p2 l2 u2
  have e3 := u32_wrap_byte p3 l3 u3
  have m1 : IntKind.i64.wrap ((a : Int) + 1) = (a : Int) + 1 := IntWalk.i64_in _ (by omega)
  have m2 : IntKind.i64.wrap ((a : Int) + 2) = (a : Int) + 2 := IntWalk.i64_in _ (by omega)
  have m3 : IntKind.i64.wrap ((a : Int) + 3) = (a : Int) + 3 := IntWalk.i64_in _ (by omega)
  have b0 : (a : Int) < (len : Int) := by omega
  have b1 : (a : Int) + 1 < (len : Int) := by omega
  have b2 : (a : Int) + 2 < (len : Int) := by omega
  have b3 : (a : Int) + 3 < (len : Int) := by omega
  have t1 : ((a : Int) + 1).toNat = a + 1 := by omega
  have t2 : ((a : Int) + 2).toNat = a + 2 := by omega
  have t3 : ((a : Int) + 3).toNat = a + 3 := by omega
  have s1 : 0 ≤ (a : Int) + 1 := by omega
  have s2 : 0 ≤ (a : Int) + 2 := by omega
  have s3 : 0 ≤ (a : Int) + 3 := by omega
  go_enter Tryd.func20, Tryd.ntmps20
  go_wp2
  go_quiet (fail)
  go_wp2
  go_ret
  exact ⟨rfl, _, rfl⟩

def konRow : Array Value := (kon.map fun n => Value.int .u32 n).toArray
theorem konRow_is : (#[.int .u32 1116352408, .int .u32 1899447441, .int .u32 3049323471, .int .u32 3921009573, .int .u32 961987163, .int .u32 1508970993, .int .u32 2453635748, .int .u32 2870763221, .int .u32 3624381080, .int .u32 310598401, .int .u32 607225278, .int .u32 1426881987, .int .u32 1925078388, .int .u32 2162078206, .int .u32 2614888103, .int .u32 3248222580, .int .u32 3835390401, .int .u32 4022224774, .int .u32 264347078, .int .u32 604807628, .int .u32 770255983, .int .u32 1249150122, .int .u32 1555081692, .int .u32 1996064986, .int .u32 2554220882, .int .u32 2821834349, .int .u32 2952996808, .int .u32 3210313671, .int .u32 3336571891, .int .u32 3584528711, .int .u32 113926993, .int .u32 338241895, .int .u32 666307205, .int .u32 773529912, .int .u32 1294757372, .int .u32 1396182291, .int .u32 1695183700, .int .u32 1986661051, .int .u32 2177026350, .int .u32 2456956037, .int .u32 2730485921, .int .u32 2820302411, .int .u32 3259730800, .int .u32 3345764771, .int .u32 3516065817, .int .u32 3600352804, .int .u32 4094571909, .int .u32 275423344, .int .u32 430227734, .int .u32 506948616, .int .u32 659060556, .int .u32 883997877, .int .u32 958139571, .int .u32 1322822218, .int .u32 1537002063, .int .u32 1747873779, .int .u32 1955562222, .int .u32 2024104815, .int .u32 2227730452, .int .u32 2361852424, .int .u32 2428436474, .int .u32 2756734187, .int .u32 3204031479, .int .u32 3329325298] : Array Value) = konRow := rfl
theorem konRow_get {t : Nat} (h : t < 64) : konRow[t]? = some (.int .u32 (kon.getD t 0)) := by
  have hl : kon.length = 64 := rfl
  unfold konRow
  simp only [List.getElem?_toArray, List.getElem?_map, List.getD_eq_getElem?_getD]
  rw [List.getElem?_eq_getElem (by rw [hl]; exact h)]
  rfl

set_option maxHeartbeats 400000 in
theorem constant22 (t : Nat) (w : World) (ht : t < 64) :
    Calls Tryd.prog 22 #[.int .i64 (t : Int)] w fun e w' => e = .returned (.int .u32 (kon.getD t 0)) ∧ Below w.heap.size w w' := by
  have t64 : (t : Int) < 64 := by omega
  have hg : (w.alloc (.cells (#[.int .u32 1116352408, .int .u32 1899447441, .int .u32 3049323471, .int .u32 3921009573, .int .u32 961987163, .int .u32 1508970993, .int .u32 2453635748, .int .u32 2870763221, .int .u32 3624381080, .int .u32 310598401, .int .u32 607225278, .int .u32 1426881987, .int .u32 1925078388, .int .u32 2162078206, .int .u32 2614888103, .int .u32 3248222580, .int .u32 3835390401, .int .u32 4022224774, .int .u32 264347078, .int .u32 604807628, .int .u32 770255983, .int .u32 1249150122, .int .u32 1555081692, .int .u32 1996064986, .int .u32 2554220882, .int .u32 2821834349, .int .u32 2952996808, .int .u32 3210313671, .int .u32 3336571891, .int .u32 3584528711, .int .u32 113926993, .int .u32 338241895, .int .u32 666307205, .int .u32 773529912, .int .u32 1294757372, .int .u32 1396182291, .int .u32 1695183700, .int .u32 1986661051, .int .u32 2177026350, .int .u32 2456956037, .int .u32 2730485921, .int .u32 2820302411, .int .u32 3259730800, .int .u32 3345764771, .int .u32 3516065817, .int .u32 3600352804, .int .u32 4094571909, .int .u32 275423344, .int .u32 430227734, .int .u32 506948616, .int .u32 659060556, .int .u32 883997877, .int .u32 958139571, .int .u32 1322822218, .int .u32 1537002063, .int .u32 1747873779, .int .u32 1955562222, .int .u32 2024104815, .int .u32 2227730452, .int .u32 2361852424, .int .u32 2428436474, .int .u32 2756734187, .int .u32 3204031479, .int .u32 3329325298]) 36)).cell? ⟨w.heap.size, t, none⟩ = some (.int .u32 (kon.getD t 0)) := by
    rw [konRow_is, cell_of_row _ _ _ _ _ _ (heap_alloc_new w _)]
    exact konRow_get ht
  go_enter Tryd.func22, Tryd.ntmps22
  go_wp2
  go_ret
  exact ⟨rfl, (Below.refl _ _).alloc (Nat.le_refl _) _⟩
end Go.Proofs.YtgfkmbdipemgmaaDoor
