/- What math/bits.RotateLeft32 and the reference's rot hand back, at each of the turns that SHA-256 uses. -/
import Derived.Test.YtgfkmbdipemgmaaDoorRows
import Derived.Test.YtgfkmbdipemgmaaDoorSpec
import Derived.WalkKit
import Derived.WalkSpells
import Derived.Deep.QuietTactic
import Derived.BigQuiet
namespace Go.Proofs.YtgfkmbdipemgmaaDoor
open Go.RowKit

theorem bits_or_comm (a b : Int) : bits .or .u32 a b = bits .or .u32 b a := by
  simp only [bits]; rw [BitVec.or_comm]

set_option maxHeartbeats 400000 in
theorem rl2 (x : Int) (w : World) :
    Calls Tryd.prog 23 #[.int .u32 x, .int .i64 (-2)] w fun e w' => e = .returned (.int .u32 (rr 4 1073741824 x)) ∧ w = w' := by
  have e1 : bits BinOp.and IntKind.u64 (IntKind.u64.wrap (-2)) 31 = 30 := by decide +kernel
  go_enter Tryd.func23, Tryd.ntmps23
  go_wp2
  go_ret
  exact ⟨rfl, rfl⟩
set_option maxHeartbeats 400000 in
theorem rot2 (x : Int) (w : World) :
    Calls Tryd.prog 21 #[.int .u32 x, .int .i64 2] w fun e w' => e = .returned (.int .u32 (rr 4 1073741824 x)) ∧ ∃ n, w' = w.drewN n := by
  go_enter Tryd.func21, Tryd.ntmps21
  go_wp2
  go_quiet (fail)
  go_wp2
  go_ret
  exact ⟨congrArg (fun z => Ending.returned (.int .u32 z)) (bits_or_comm _ _), _, rfl⟩

set_option maxHeartbeats 400000 in
theorem rl6 (x : Int) (w : World) :
    Calls Tryd.prog 23 #[.int .u32 x, .int .i64 (-6)] w fun e w' => e = .returned (.int .u32 (rr 64 67108864 x)) ∧ w = w' := by
  have e1 : bits BinOp.and IntKind.u64 (IntKind.u64.wrap (-6)) 31 = 26 := by decide +kernel
  go_enter Tryd.func23, Tryd.ntmps23
  go_wp2
  go_ret
  exact ⟨rfl, rfl⟩
set_option maxHeartbeats 400000 in
theorem rot6 (x : Int) (w : World) :
    Calls Tryd.prog 21 #[.int .u32 x, .int .i64 6] w fun e w' => e = .returned (.int .u32 (rr 64 67108864 x)) ∧ ∃ n, w' = w.drewN n := by
  go_enter Tryd.func21, Tryd.ntmps21
  go_wp2
  go_quiet (fail)
  go_wp2
  go_ret
  exact ⟨congrArg (fun z => Ending.returned (.int .u32 z)) (bits_or_comm _ _), _, rfl⟩

set_option maxHeartbeats 400000 in
theorem rl7 (x : Int) (w : World) :
    Calls Tryd.prog 23 #[.int .u32 x, .int .i64 (-7)] w fun e w' => e = .returned (.int .u32 (rr 128 33554432 x)) ∧ w = w' := by
  have e1 : bits BinOp.and IntKind.u64 (IntKind.u64.wrap (-7)) 31 = 25 := by decide +kernel
  go_enter Tryd.func23, Tryd.ntmps23
  go_wp2
  go_ret
  exact ⟨rfl, rfl⟩
set_option maxHeartbeats 400000 in
theorem rot7 (x : Int) (w : World) :
    Calls Tryd.prog 21 #[.int .u32 x, .int .i64 7] w fun e w' => e = .returned (.int .u32 (rr 128 33554432 x)) ∧ ∃ n, w' = w.drewN n := by
  go_enter Tryd.func21, Tryd.ntmps21
  go_wp2
  go_quiet (fail)
  go_wp2
  go_ret
  exact ⟨congrArg (fun z => Ending.returned (.int .u32 z)) (bits_or_comm _ _), _, rfl⟩

set_option maxHeartbeats 400000 in
theorem rl11 (x : Int) (w : World) :
    Calls Tryd.prog 23 #[.int .u32 x, .int .i64 (-11)] w fun e w' => e = .returned (.int .u32 (rr 2048 2097152 x)) ∧ w = w' := by
  have e1 : bits BinOp.and IntKind.u64 (IntKind.u64.wrap (-11)) 31 = 21 := by decide +kernel
  go_enter Tryd.func23, Tryd.ntmps23
  go_wp2
  go_ret
  exact ⟨rfl, rfl⟩
set_option maxHeartbeats 400000 in
theorem rot11 (x : Int) (w : World) :
    Calls Tryd.prog 21 #[.int .u32 x, .int .i64 11] w fun e w' => e = .returned (.int .u32 (rr 2048 2097152 x)) ∧ ∃ n, w' = w.drewN n := by
  go_enter Tryd.func21, Tryd.ntmps21
  go_wp2
  go_quiet (fail)
  go_wp2
  go_ret
  exact ⟨congrArg (fun z => Ending.returned (.int .u32 z)) (bits_or_comm _ _), _, rfl⟩

set_option maxHeartbeats 400000 in
theorem rl13 (x : Int) (w : World) :
    Calls Tryd.prog 23 #[.int .u32 x, .int .i64 (-13)] w fun e w' => e = .returned (.int .u32 (rr 8192 524288 x)) ∧ w = w' := by
  have e1 : bits BinOp.and IntKind.u64 (IntKind.u64.wrap (-13)) 31 = 19 := by decide +kernel
  go_enter Tryd.func23, Tryd.ntmps23
  go_wp2
  go_ret
  exact ⟨rfl, rfl⟩
set_option maxHeartbeats 400000 in
theorem rot13 (x : Int) (w : World) :
    Calls Tryd.prog 21 #[.int .u32 x, .int .i64 13] w fun e w' => e = .returned (.int .u32 (rr 8192 524288 x)) ∧ ∃ n, w' = w.drewN n := by
  go_enter Tryd.func21, Tryd.ntmps21
  go_wp2
  go_quiet (fail)
  go_wp2
  go_ret
  exact ⟨congrArg (fun z => Ending.returned (.int .u32 z)) (bits_or_comm _ _), _, rfl⟩

set_option maxHeartbeats 400000 in
theorem rl17 (x : Int) (w : World) :
    Calls Tryd.prog 23 #[.int .u32 x, .int .i64 (-17)] w fun e w' => e = .returned (.int .u32 (rr 131072 32768 x)) ∧ w = w' := by
  have e1 : bits BinOp.and IntKind.u64 (IntKind.u64.wrap (-17)) 31 = 15 := by decide +kernel
  go_enter Tryd.func23, Tryd.ntmps23
  go_wp2
  go_ret
  exact ⟨rfl, rfl⟩
set_option maxHeartbeats 400000 in
theorem rot17 (x : Int) (w : World) :
    Calls Tryd.prog 21 #[.int .u32 x, .int .i64 17] w fun e w' => e = .returned (.int .u32 (rr 131072 32768 x)) ∧ ∃ n, w' = w.drewN n := by
  go_enter Tryd.func21, Tryd.ntmps21
  go_wp2
  go_quiet (fail)
  go_wp2
  go_ret
  exact ⟨congrArg (fun z => Ending.returned (.int .u32 z)) (bits_or_comm _ _), _, rfl⟩

set_option maxHeartbeats 400000 in
theorem rl18 (x : Int) (w : World) :
    Calls Tryd.prog 23 #[.int .u32 x, .int .i64 (-18)] w fun e w' => e = .returned (.int .u32 (rr 262144 16384 x)) ∧ w = w' := by
  have e1 : bits BinOp.and IntKind.u64 (IntKind.u64.wrap (-18)) 31 = 14 := by decide +kernel
  go_enter Tryd.func23, Tryd.ntmps23
  go_wp2
  go_ret
  exact ⟨rfl, rfl⟩
set_option maxHeartbeats 400000 in
theorem rot18 (x : Int) (w : World) :
    Calls Tryd.prog 21 #[.int .u32 x, .int .i64 18] w fun e w' => e = .returned (.int .u32 (rr 262144 16384 x)) ∧ ∃ n, w' = w.drewN n := by
  go_enter Tryd.func21, Tryd.ntmps21
  go_wp2
  go_quiet (fail)
  go_wp2
  go_ret
  exact ⟨congrArg (fun z => Ending.returned (.int .u32 z)) (bits_or_comm _ _), _, rfl⟩

set_option maxHeartbeats 400000 in
theorem rl19 (x : Int) (w : World) :
    Calls Tryd.prog 23 #[.int .u32 x, .int .i64 (-19)] w fun e w' => e = .returned (.int .u32 (rr 524288 8192 x)) ∧ w = w' := by
  have e1 : bits BinOp.and IntKind.u64 (IntKind.u64.wrap (-19)) 31 = 13 := by decide +kernel
  go_enter Tryd.func23, Tryd.ntmps23
  go_wp2
  go_ret
  exact ⟨rfl, rfl⟩
set_option maxHeartbeats 400000 in
theorem rot19 (x : Int) (w : World) :
    Calls Tryd.prog 21 #[.int .u32 x, .int .i64 19] w fun e w' => e = .returned (.int .u32 (rr 524288 8192 x)) ∧ ∃ n, w' = w.drewN n := by
  go_enter Tryd.func21, Tryd.ntmps21
  go_wp2
  go_quiet (fail)
  go_wp2
  go_ret
  exact ⟨congrArg (fun z => Ending.returned (.int .u32 z)) (bits_or_comm _ _), _, rfl⟩

set_option maxHeartbeats 400000 in
theorem rl22 (x : Int) (w : World) :
    Calls Tryd.prog 23 #[.int .u32 x, .int .i64 (-22)] w fun e w' => e = .returned (.int .u32 (rr 4194304 1024 x)) ∧ w = w' := by
  have e1 : bits BinOp.and IntKind.u64 (IntKind.u64.wrap (-22)) 31 = 10 := by decide +kernel
  go_enter Tryd.func23, Tryd.ntmps23
  go_wp2
  go_ret
  exact ⟨rfl, rfl⟩
set_option maxHeartbeats 400000 in
theorem rot22 (x : Int) (w : World) :
    Calls Tryd.prog 21 #[.int .u32 x, .int .i64 22] w fun e w' => e = .returned (.int .u32 (rr 4194304 1024 x)) ∧ ∃ n, w' = w.drewN n := by
  go_enter Tryd.func21, Tryd.ntmps21
  go_wp2
  go_quiet (fail)
  go_wp2
  go_ret
  exact ⟨congrArg (fun z => Ending.returned (.int .u32 z)) (bits_or_comm _ _), _, rfl⟩

set_option maxHeartbeats 400000 in
theorem rl25 (x : Int) (w : World) :
    Calls Tryd.prog 23 #[.int .u32 x, .int .i64 (-25)] w fun e w' => e = .returned (.int .u32 (rr 33554432 128 x)) ∧ w = w' := by
  have e1 : bits BinOp.and IntKind.u64 (IntKind.u64.wrap (-25)) 31 = 7 := by decide +kernel
  go_enter Tryd.func23, Tryd.ntmps23
  go_wp2
  go_ret
  exact ⟨rfl, rfl⟩
set_option maxHeartbeats 400000 in
theorem rot25 (x : Int) (w : World) :
    Calls Tryd.prog 21 #[.int .u32 x, .int .i64 25] w fun e w' => e = .returned (.int .u32 (rr 33554432 128 x)) ∧ ∃ n, w' = w.drewN n := by
  go_enter Tryd.func21, Tryd.ntmps21
  go_wp2
  go_quiet (fail)
  go_wp2
  go_ret
  exact ⟨congrArg (fun z => Ending.returned (.int .u32 z)) (bits_or_comm _ _), _, rfl⟩

end Go.Proofs.YtgfkmbdipemgmaaDoor
