/- Two equal rows of 32 bytes compare as equal. -/
import Derived.Test.YtgfkmbdipemgmaaDoorTwo
import Derived.Laws.StructEq
namespace Go.Proofs.YtgfkmbdipemgmaaDoor
open Go Go.RowKit

theorem forIn_true {α : Type} {P : Program} {w : World} (body : α → Option Bool × Unit → Sem (ForInStep (Option Bool × Unit))) : ∀ (l : List α), (∀ i ∈ l, (body i (none, ())).run P w = .ok (.yield (none, ())) w) →
    (forIn l ((none, ()) : Option Bool × Unit) body : Sem _).run P w = .ok (none, ()) w
  | [], _ => by simp
  | i :: l, h => by
    simp only [List.forIn_cons, Sem.run_bind, h i (by simp), Result.andThen_ok]
    exact forIn_true body l (fun j hj => h j (by simp [hj]))

theorem eq25_at (d : Nat) (f : Nat → Int) (w : World) : (Op.equalIn (d + 1 + 1) 25 (.agg (bytesV 32 f)) (.agg (bytesV 32 f))).run Tryd.prog w = .ok true w := by
  have hu : Tryd.prog.underlying 25 = some (.array 32 5) := Tryd.underlying25
  have h5 : Tryd.prog.underlying 5 = some (.int .u8) := Tryd.underlying5
  obtain ⟨i5, hi5, hz0, hz1, hz2⟩ := info_parts info5
  have he : ∀ (a b : Int), (Op.equalIn (d + 1) 5 (.int .u8 a) (.int .u8 b)).run Tryd.prog w = .ok (a == b) w := fun a b => run_equalIn_int w d 5 .u8 .u8 a b h5
  rw [Op.equalIn]
  have hsz : (sizeOf 5).run Tryd.prog w = .ok 1 w := by simp [sizeOf, typeInfo, hi5, hz1]
  have hp : ∀ i, i < 32 → (part 5 (bytesV 32 f) i).run Tryd.prog w = .ok (.int .u8 (f i)) w := fun i hi => by
    simp [part, isAgg, run_underlying h5, bytesV_get hi]
  simp only [Sem.run_bind, run_underlying hu, Result.andThen_ok, hsz]
  rw [Std.Legacy.Range.forIn_eq_forIn_range']
  rw [forIn_true _ _ (fun i hi => ?_)]
  · simp
  · have h32 : i < 32 := by simpa [Std.Legacy.Range.size] using hi
    simp only [Nat.mul_one, Sem.run_bind, hp i h32, Result.andThen_ok, he]
    simp

theorem eq25 (f : Nat → Int) (w : World) : (Op.equalIn 10000 25 (.agg (bytesV 32 f)) (.agg (bytesV 32 f))).run Tryd.prog w = .ok true w := eq25_at 9998 f w
theorem guard25 : Tryd.prog.eqGuardType Tryd.prog.depth 25 = false := by kernel_rfl
end Go.Proofs.YtgfkmbdipemgmaaDoor
