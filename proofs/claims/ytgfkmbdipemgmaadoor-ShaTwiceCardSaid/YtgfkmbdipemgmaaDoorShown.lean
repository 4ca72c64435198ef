/- What shown hands back: the document's values are the program's. -/
import Derived.Test.YtgfkmbdipemgmaaDoorSame
import Derived.Lib.SlBytesConst
namespace Go.Proofs.YtgfkmbdipemgmaaDoor
open Go Go.RowKit

def noneF (j : Nat) : Int := [227, 176, 196, 66, 152, 252, 28, 20, 154, 251, 244, 200, 153, 111, 185, 36, 39, 174, 65, 228, 100, 155, 147, 76, 164, 149, 153, 27, 120, 82, 184, 85].getD j 0
def keyB (j : Nat) : Int := [107, 101, 121].getD j 0
def txtB (j : Nat) : Int := [84, 104, 101, 32, 113, 117, 105, 99, 107, 32, 98, 114, 111, 119, 110, 32, 102, 111, 120, 32, 106, 117, 109, 112, 115, 32, 111, 118, 101, 114, 32, 116, 104, 101, 32, 108, 97, 122, 121, 32, 100, 111, 103].getD j 0
def nilB (_ : Nat) : Int := 0
def noneParts : Array (Nat × Operand) := #[(0, .const (.int .u8 227)), (1, .const (.int .u8 176)), (2, .const (.int .u8 196)), (3, .const (.int .u8 66)), (4, .const (.int .u8 152)), (5, .const (.int .u8 252)), (6, .const (.int .u8 28)), (7, .const (.int .u8 20)), (8, .const (.int .u8 154)), (9, .const (.int .u8 251)), (10, .const (.int .u8 244)), (11, .const (.int .u8 200)), (12, .const (.int .u8 153)), (13, .const (.int .u8 111)), (14, .const (.int .u8 185)), (15, .const (.int .u8 36)), (16, .const (.int .u8 39)), (17, .const (.int .u8 174)), (18, .const (.int .u8 65)), (19, .const (.int .u8 228)), (20, .const (.int .u8 100)), (21, .const (.int .u8 155)), (22, .const (.int .u8 147)), (23, .const (.int .u8 76)), (24, .const (.int .u8 164)), (25, .const (.int .u8 149)), (26, .const (.int .u8 153)), (27, .const (.int .u8 27)), (28, .const (.int .u8 120)), (29, .const (.int .u8 82)), (30, .const (.int .u8 184)), (31, .const (.int .u8 85))]

set_option maxRecDepth 100000 in
theorem none_is : ∀ j, j < 32 → sumF nilB 0 j = noneF j := by decide +kernel
set_option maxRecDepth 100000 in
theorem mac_nil : macB (keyF nilB 0) nilB 0 0 = 182 ∧ macB (keyF nilB 0) nilB 0 31 = 173 := by decide +kernel
set_option maxRecDepth 100000 in
theorem mac_fox : macB (keyF keyB 3) txtB 43 0 = 247 ∧ macB (keyF keyB 3) txtB 43 31 = 216 := by decide +kernel
set_option maxRecDepth 100000 in
theorem keyB_bd : ∀ j, 0 ≤ keyB j ∧ keyB j ≤ 255 := fun j => by
  by_cases h : j < 3
  · exact (by decide +kernel : ∀ j, j < 3 → 0 ≤ keyB j ∧ keyB j ≤ 255) j h
  · have : keyB j = 0 := by unfold keyB; rw [List.getD_eq_getElem?_getD, List.getElem?_eq_none (by simp; omega)]; rfl
    omega
set_option maxRecDepth 100000 in
theorem txtB_bd : ∀ j, 0 ≤ txtB j ∧ txtB j ≤ 255 := fun j => by
  by_cases h : j < 43
  · exact (by decide +kernel : ∀ j, j < 43 → 0 ≤ txtB j ∧ txtB j ≤ 255) j h
  · have : txtB j = 0 := by unfold txtB; rw [List.getD_eq_getElem?_getD, List.getElem?_eq_none (by simp; omega)]; rfl
    omega

theorem run_none (a : Act) (w : World) (d : Option Tmp) (t : TypeId) (p : String) (af : Array Edge) (g : Option (Nat × Bool)) :
    (execOp a.eval { dst := d, op := .build 25 noneParts, type := t, pos := p, after := af, guard := g }).run Tryd.prog w = .ok (.value (.agg (bytesV 32 noneF))) w := by kernel_rfl

/-- The literal of the 32 bytes, without a look at them. -/
theorem wpList_none {ops : Array Oper} {rest : List Oper} {o : Oper} {a : Act} {w : World} {Q : Exit → Act → World → Prop} (hgd : o.guard = none) (ho : o.op = .build 25 noneParts)
    (h : wpList Tryd.prog ops Q rest (a.put o.dst (.agg (bytesV 32 noneF))) w) : wpList Tryd.prog ops Q (o :: rest) a w :=
  wpList_plain hgd fun K hK => by
    obtain ⟨d, op, t, p, af, g⟩ := o
    simp only at ho
    subst ho
    unfold Oper.wp
    rw [run_none]
    exact hK _ _ h

theorem key_is : (#[.int .u8 107, .int .u8 101, .int .u8 121] : Array Value) = bytesV 3 keyB := rfl

theorem const_at (w : World) (C : Array Value) (n c g : Nat) (hg : g = w.heap.size) :
    (convert 22 22 (.slice (some ⟨g, 0, none⟩) n c)).run Tryd.prog (w.alloc (.cells C 5)) = .ok (.slice (some ⟨g, 0, none⟩) n c) (w.alloc (.cells C 5 (C.size, C.size + 1))) := by
  subst hg; exact Lib.run_convert_bytes_const w 22 5 C n c Tryd.underlying22 Tryd.underlying5

theorem put_none (a : Act) (v : Value) : a.put none v = a := rfl

theorem newRow32_row (wa : World) (g : Nat → Int) : (newRow32 wa g).heap[wa.heap.size]? = some (.cells (bytesV 32 g) 25 (0, 0)) := setRow_heap _ _ _ _ _ _ (heap_alloc_new wa _)

/-- A load of a whole row, in a region whose operations read, or whose callees make new memory. -/
theorem wpQuiet_load_row {P : Program} {ops : Array Oper} {C : World → Prop} {Q : Act → Prop} {tmps : Array Value} {ds : List Deferred} {o : Oper} {rest : List Oper} {n : Nat} (ty : TypeId) (x : Operand)
    (hw : Region.wanted o (yielded ops tmps) = true) (hd : o.dst = some n) (ho : o.op = .load ty x) (g : Nat) (hx : (Act.mk tmps ds).eval x = .pointer (some ⟨g, 0, none⟩)) (t : TypeId) (cs : Array Value) (fr : Nat × Nat) (d : TypeDesc)
    (hg : ∀ w, C w → w.heap[g]? = some (.cells cs t fr)) (hu : P.underlying ty = some d) (hdd : (match d with | .struct _ | .array _ _ => true | _ => false) = true) (hi : (P.info? ty).map (·.size) = some cs.size)
    (h : wpQuiet P ops C Q rest ⟨tmps.setIfInBounds n (.agg cs), ds⟩) : wpQuiet P ops C Q (o :: rest) ⟨tmps, ds⟩ :=
  wpQuiet_step fun K hK => by
    rw [if_pos hw]
    refine ⟨.agg cs, fun w hCw => ?_, ?_⟩
    · unfold Oper.quietAt execOp
      simp only [ho, hx, Instr.loadAt, Instr.sureAddr, Sem.run_bind, Sem.run_pure, Result.andThen_ok, run_loadVar_row w g t ty cs fr d (hg w hCw) hu hdd hi]
      exact ⟨rfl, rfl⟩
    · rw [hd]
      exact hK _ h

set_option maxHeartbeats 1000000 in
set_option maxRecDepth 100000 in
theorem shown7 (w : World) (hK : K0 w) : Calls Tryd.prog 7 #[] w fun e w' => e = .returned (.bool true) ∧ Below w.heap.size w w' := by
  have hi : ∀ f, (Tryd.prog.info? 25).map (·.size) = some (bytesV 32 f).size := fun f => by rw [bytesV_size]; exact info25
  have HI := Lib.hid hi
  clear hi
  have hb1 := newRow32_below w noneF
  have hr1 := newRow32_row w noneF
  have hK1 := hK.below hb1
  have HB1 := Lib.hid hb1; have HR1 := Lib.hid hr1
  clear hb1 hr1
  have kc := fun (w : World) (C : Array Value) (n c g : Nat) (hg : g = w.heap.size) => const_at w C n c g hg
  go_enter Tryd.func7, Tryd.ntmps7
  go_wp2_with (first | (refine wpList_none rfl rfl ?_) | (refine wpList_store_row rfl 25 _ _ rfl w.heap.size (bytesV 32 noneF) rfl rfl 25 (bytesV 32 (fun _ => 0)) (heap_alloc_new w _) (HI.out _) (by rw [bytesV_size, bytesV_size]) (bytesV_one _ _) ?_; change wpList _ _ _ _ _ (newRow32 w noneF)))
  refine (mac10 (.slice none 0 0) (.slice none 0 0) 0 0 nilB nilB (newRow32 w noneF) (.inl ⟨rfl, rfl⟩) (.inl ⟨rfl, rfl⟩) (by omega) (by omega) (fun _ => Int.le_refl 0) (fun _ => by unfold nilB; omega) (fun _ => Int.le_refl 0) (fun _ => by unfold nilB; omega) hK1).mono ?_
  rintro e w2 ⟨rfl, hb2⟩
  have hm := mac_nil
  generalize macB (keyF nilB 0) nilB 0 = m1 at *
  have hb3 := newRow32_below w2 m1
  have hr3 := newRow32_row w2 m1
  have hlt1 : w.heap.size < (newRow32 w noneF).heap.size := (Array.getElem?_eq_some_iff.1 HR1.out).1
  have hr1 : (newRow32 w2 m1).heap[w.heap.size]? = some (.cells (bytesV 32 noneF) 25 (0, 0)) := (hb3.block _ (Nat.lt_of_lt_of_le hlt1 hb2.size)).trans ((hb2.block _ hlt1).trans HR1.out)
  have hbw : Below w.heap.size w (newRow32 w2 m1) := (HB1.out.trans (hb2.mono (by omega))).trans (hb3.mono (by have := hb2.size; omega))
  have hK3 := hK.below hbw
  have hkx : Rx (((newRow32 w2 m1).alloc (.cells (bytesV 3 keyB) 5 (3, 4))).alloc (.cells (bytesV 43 txtB) 5 (43, 44))) (.slice (some ⟨(newRow32 w2 m1).heap.size, 0, none⟩) 3 3) 3 keyB :=
    Rx.below (w := (newRow32 w2 m1).alloc (.cells (bytesV 3 keyB) 5 (3, 4))) (.inr ⟨_, 0, 3, rfl, by simp, fun j hj => by rw [Nat.zero_add, cell_of_row _ _ _ _ _ _ (heap_alloc_new _ _), bytesV_get hj]; rfl⟩) ((Below.refl _ _).alloc (Nat.le_refl _) _)
  have htx : Rx (((newRow32 w2 m1).alloc (.cells (bytesV 3 keyB) 5 (3, 4))).alloc (.cells (bytesV 43 txtB) 5 (43, 44))) (.slice (some ⟨(newRow32 w2 m1).heap.size + 1, 0, none⟩) 43 43) 43 txtB :=
    .inr ⟨_, 0, 43, rfl, by simp, fun j hj => by
      rw [Nat.zero_add, cell_of_row _ _ _ _ _ _ (heap_alloc2_new (newRow32 w2 m1) _ _), bytesV_get hj]; rfl⟩
  have HKX := Lib.hid hkx; have HTX := Lib.hid htx; have HR3 := Lib.hid hr3; have HR1' := Lib.hid hr1; have HBW := Lib.hid hbw; have HM := Lib.hid hm
  clear hkx htx hr3 hr1 hbw hm hb3 HR1 HB1 hb2 hlt1 hK1
  go_wp2_with (refine wpList_store_row rfl 25 _ _ rfl w2.heap.size (bytesV 32 m1) rfl rfl 25 (bytesV 32 (fun _ => 0)) (heap_alloc_new w2 _) (HI.out _) (by rw [bytesV_size, bytesV_size]) (bytesV_one _ _) ?_; change wpList _ _ _ _ _ (newRow32 w2 m1))
  refine (mac10 (.slice (some ⟨(newRow32 w2 m1).heap.size, 0, none⟩) 3 3) (.slice (some ⟨(newRow32 w2 m1).heap.size + 1, 0, none⟩) 43 43) 3 43 keyB txtB (((newRow32 w2 m1).alloc (.cells (bytesV 3 keyB) 5 (3, 4))).alloc (.cells (bytesV 43 txtB) 5 (43, 44))) HKX.out HTX.out (by omega) (by omega) (fun j => (keyB_bd j).1) (fun j => (keyB_bd j).2) (fun j => (txtB_bd j).1) (fun j => (txtB_bd j).2) (hK3.below (((Below.refl _ _).alloc (Nat.le_refl _) _).alloc (by simp) _))).mono ?_
  rintro e w4 ⟨rfl, hb4⟩
  have hm2 := mac_fox
  generalize macB (keyF keyB 3) txtB 43 = m2 at *
  have hs3 : w2.heap.size < (newRow32 w2 m1).heap.size := (Array.getElem?_eq_some_iff.1 HR3.out).1
  have hs1 : w.heap.size < (newRow32 w2 m1).heap.size := (Array.getElem?_eq_some_iff.1 HR1'.out).1
  have hb34 : Below (newRow32 w2 m1).heap.size (newRow32 w2 m1) w4 := (((Below.refl _ _).alloc (Nat.le_refl _) _).alloc (by simp) _).trans (hb4.mono (by simp; omega))
  have hb5 := newRow32_below w4 m2
  have hb35 : Below (newRow32 w2 m1).heap.size (newRow32 w2 m1) (newRow32 w4 m2) := hb34.trans (hb5.mono hb34.size)
  have hr1 : (newRow32 w4 m2).heap[w.heap.size]? = some (.cells (bytesV 32 noneF) 25 (0, 0)) := (hb35.block _ hs1).trans HR1'.out
  have hr2 : (newRow32 w4 m2).heap[w2.heap.size]? = some (.cells (bytesV 32 m1) 25 (0, 0)) := (hb35.block _ hs3).trans HR3.out
  have hr3 : (newRow32 w4 m2).heap[w4.heap.size]? = some (.cells (bytesV 32 m2) 25 (0, 0)) := newRow32_row w4 m2
  have hz1 : w.heap.size < (newRow32 w4 m2).heap.size := (Array.getElem?_eq_some_iff.1 hr1).1
  have hz2 : w2.heap.size < (newRow32 w4 m2).heap.size := (Array.getElem?_eq_some_iff.1 hr2).1
  have hz3 : w4.heap.size < (newRow32 w4 m2).heap.size := (Array.getElem?_eq_some_iff.1 hr3).1
  have hK5 := hK3.below hb35
  have hbw5 : Below w.heap.size w (newRow32 w4 m2) := HBW.out.trans (hb35.mono (by omega))
  have xl : ∀ w', (∃ e : Ext (newRow32 w4 m2), w' = e.val) → w'.heap[w.heap.size]? = some (.cells (bytesV 32 noneF) 25 (0, 0)) := fun w' ⟨e, he⟩ => by
    rw [he]; exact (e.below.block _ hz1).trans hr1
  have XL := Lib.hid xl
  clear xl
  have x0 : ∀ e : Ext (newRow32 w4 m2), e.val.cell? ⟨w2.heap.size, 0, none⟩ = some (.int .u8 182) := fun e => by
    rw [e.cell _ _ hz2, cell_of_row _ _ _ _ _ _ hr2, bytesV_get (by omega), HM.out.1]
  have x1 : ∀ e : Ext (newRow32 w4 m2), e.val.cell? ⟨w2.heap.size, 31, none⟩ = some (.int .u8 173) := fun e => by
    rw [e.cell _ _ hz2, cell_of_row _ _ _ _ _ _ hr2, bytesV_get (by omega), HM.out.2]
  have x2 : ∀ e : Ext (newRow32 w4 m2), e.val.cell? ⟨w4.heap.size, 0, none⟩ = some (.int .u8 247) := fun e => by
    rw [e.cell _ _ hz3, cell_of_row _ _ _ _ _ _ hr3, bytesV_get (by omega), hm2.1]
  have x3 : ∀ e : Ext (newRow32 w4 m2), e.val.cell? ⟨w4.heap.size, 31, none⟩ = some (.int .u8 216) := fun e => by
    rw [e.cell _ _ hz3, cell_of_row _ _ _ _ _ _ hr3, bytesV_get (by omega), hm2.2]
  have hsum : ∀ e : Ext (newRow32 w4 m2), Calls Tryd.prog 8 #[.slice none 0 0] e.val fun x w' => x = .returned (.agg (bytesV 32 noneF)) ∧ Below e.val.heap.size e.val w' := fun e => by
    have := sum8 (.slice none 0 0) 0 nilB e.val (.inl ⟨rfl, rfl⟩) (by omega) (fun _ => Int.le_refl 0) (fun _ => by unfold nilB; omega) (hK5.below e.below)
    rw [bytesV_congr none_is] at this
    exact this
  have HSUM := Lib.hid hsum; have HBW5 := Lib.hid hbw5
  clear hsum hm2 hb34 hb5 hb35 hr1 hr2 hr3 hK5 hK3 hbw5 HM HR3 HR1' HBW hb4 HKX HTX hs1 hs3 kc hz1 hz2 hz3
  have xeq := eq25 noneF
  have xg := guard25
  go_wp2_with (refine wpList_store_row rfl 25 _ _ rfl w4.heap.size (bytesV 32 m2) rfl rfl 25 (bytesV 32 (fun _ => 0)) (heap_alloc_new w4 _) (HI.out _) (by rw [bytesV_size, bytesV_size]) (bytesV_one _ _) ?_; change wpList _ _ _ _ _ (newRow32 w4 m2))
  generalize newRow32 w4 m2 = w5 at *
  refine wp_region_ext (by kernel_rfl) (by kernel_rfl) ?_
  rw [put_none]
  go_big_quiet_step (exact Calls.ext_of_below (HSUM.out _))
  refine wpQuiet_load_row 25 _ rfl rfl rfl w.heap.size rfl 25 (bytesV 32 noneF) (0, 0) _ XL.out Tryd.underlying25 rfl (HI.out _) ?_
  simp only [List.setIfInBounds_toArray, List.set_cons_succ, List.set_cons_zero]
  repeat (go_big_quiet_step (fail))
  refine wpQuiet_nil ?_
  intro wq hwq
  obtain ⟨e5, rfl⟩ := hwq
  have hfin := HBW5.out.trans (e5.below.mono HBW5.out.size)
  go_wp2
  go_ret
  exact ⟨rfl, hfin⟩
end Go.Proofs.YtgfkmbdipemgmaaDoor
