/- What (*state).write does: the pieces that are whole are taken, the others wait; nothing else that was there has changed. -/
import Derived.Test.YtgfkmbdipemgmaaDoorPiece
import Derived.Test.YtgfkmbdipemgmaaDoorState
import Derived.Deep.LoopGhost
namespace Go.Proofs.YtgfkmbdipemgmaaDoor
open Go Go.RowKit

/-- What holds at each round's head: k pieces have been taken. -/
structure Wr (w0 w : World) (S M : Nat) (h c : Nat → Int) (row : Option Nat) (n : Int) (k : Nat) (rest : Value) : Prop where
  st : StB w S (hsF h c k) rest n
  sl : Sl w (S + 1) rest (M - 64 * k) (byte (fun j => c (64 * k + j)))
  keeps : Keeps w0 w S row
  own : ∀ b, rest.ownBlock = some b → row = some b ∨ w0.heap.size ≤ b
  le : 64 * k ≤ M

theorem Wr.next {w0 wr w3 : World} {S M : Nat} {h c : Nat → Int} {row : Option Nat} {n : Int} {k g off cap nq : Nat} (W : Wr w0 wr S M h c row n k (.slice (some ⟨g, off, none⟩) (M - 64 * k) cap)) (h64 : 64 ≤ M - 64 * k)
    (hb : Below (wr.drewN nq).heap.size (wr.drewN nq) w3) {V : Value} (hV : V = .slice (some (if cap = 64 then ⟨g, off, none⟩ else (⟨g, off, none⟩ : Addr).add 64)) (M - 64 * k - 64) (cap - 64)) :
    Wr w0 ((setH w3 S (pieceF (hsF h c k) (fun j => c (64 * k + j)))).setCell ⟨S, 8, none⟩ V) S M h c row n (k + 1) V := by
  have hlt := W.st.lt
  have hgb := W.sl.block g rfl
  have st3 : StB w3 S (hsF h c k) _ n := W.st.kept (hb.block S hlt)
  have kp : Keeps w0 w3 S row := (W.keeps.drewN nq).below hb
  have hcut := W.sl.drop h64
  rw [← hV] at hcut
  have hown : V.ownBlock = some g := by
    subst hV
    show some (if cap = 64 then (⟨g, off, none⟩ : Addr) else (⟨g, off, none⟩ : Addr).add 64).block = some g
    split
    · rfl
    · unfold Addr.add; split <;> rfl
  refine ⟨(st3.setH _).setRest _, ?_, (kp.setH _).setCell 8 _, fun b hb' => W.own b (by rw [hown] at hb'; exact hb'), by omega⟩
  have h1 := hcut.kept (w' := (setH w3 S (pieceF (hsF h c k) (fun j => c (64 * k + j)))).setCell ⟨S, 8, none⟩ V) (Nat.le_refl _)
    (by have := hb.size; simp only [World.size_setCell, size_setH]; exact this) (fun b hb' => by
      rw [hown] at hb'
      have hbg : g = b := by simpa using hb'
      subst hbg
      rw [heap_setCell_other _ _ _ _ (by simp; omega), heap_setH _ _ _ _ (by omega)]
      exact hb.block g hgb.2)
  rw [show M - 64 * (k + 1) = M - 64 * k - 64 by omega]
  refine h1.congr (fun j _ => ?_)
  show byte _ (64 + j) = byte _ j
  unfold byte
  show Value.int .u8 (c (64 * k + (64 + j))) = .int .u8 (c (64 * (k + 1) + j))
  rw [show 64 * k + (64 + j) = 64 * (k + 1) + j by omega]

set_option maxHeartbeats 1000000 in
set_option maxRecDepth 100000 in
theorem write13 (S m len : Nat) (h c : Nat → Int) (rest x : Value) (n : Int) (w : World) 
    (hS : StB w S h rest n) (hr : Sl w (S + 1) rest m (byte c)) (hrd : Rd w S x len (fun j => c (m + j))) (hlen : m + len ≤ 140737488355328)
    (hc0 : ∀ j, 0 ≤ c j) (hc1 : ∀ j, c j ≤ 255) (hg : 0 < S) (hK : ∀ j, j < 64 → w.cell? ⟨0, j, none⟩ = some (.int .u32 (kon.getD j 0))) (hK0 : rest.ownBlock ≠ some 0) :
    Calls Tryd.prog 13 #[.pointer (some ⟨S, 0, none⟩), x] w fun e w' => e = .returned (.tuple #[]) ∧
      ∃ rest', StB w' S (hsF h c ((m + len) / 64)) rest' (IntKind.u64.wrap (n + (len : Int))) ∧ Sl w' (S + 1) rest' ((m + len) % 64) (byte (fun j => c (64 * ((m + len) / 64) + j))) ∧
        Keeps w w' S rest.ownBlock ∧ (∀ b, rest'.ownBlock = some b → rest.ownBlock = some b ∨ w.heap.size ≤ b) := by
  obtain ⟨i5, hi5, hz0, hz1, hz2⟩ := info_parts info5
  obtain ⟨xa, xcap, rfl⟩ := hrd.form
  have hlt := hS.lt
  have sl1 : ∀ v, Sl (w.setCell ⟨S, 9, none⟩ v) (S + 1) rest m (byte c) := fun v => hr.kept (Nat.le_refl _) (by simp) (fun k hk => heap_setCell_other w _ _ _ (by have := (hr.block k hk).1; simp; omega))
  have src1 : ∀ v, Src Tryd.prog 1 22 (.slice xa len xcap) len (cellsOf len (byte (fun j => c (m + j)))) (w.setCell ⟨S, 9, none⟩ v) := fun v =>
    hrd.src (fun b o hb => World.cell?_setCell_other w _ _ _ (fun e => hb (congrArg Addr.block e).symm))
  have st1 : ∀ v, StB (w.setCell ⟨S, 9, none⟩ (.int .u64 v)) S h rest v := fun v => hS.setN v
  have kp1 : ∀ v, Keeps w (w.setCell ⟨S, 9, none⟩ v) S rest.ownBlock := fun v => (Keeps.refl w S _).setCell 9 v
  have hbl : ∀ k, rest.ownBlock = some k → S + 1 ≤ k := fun k hk => (hr.block k hk).1
  have HC0 := Lib.hid hc0; have HC1 := Lib.hid hc1; have HK := Lib.hid hK; have SL1 := Lib.hid sl1; have SRC1 := Lib.hid src1; have ST1 := Lib.hid st1; have KP1 := Lib.hid kp1; have HBL := Lib.hid hbl; have HK0 := Lib.hid hK0
  have HI5 := Lib.hid hi5; have HZ0 := Lib.hid hz0; have HZ1 := Lib.hid hz1; have HZ2 := Lib.hid hz2
  have c8 : w.cell? ⟨S, 8, none⟩ = some rest := hS.cell 8
  have c9 : w.cell? ⟨S, 9, none⟩ = some (.int .u64 n) := hS.cell 9
  have f8 := hS.free 8
  have f9 := hS.free 9
  clear hS hr hrd hc0 hc1 hK sl1 src1 st1 kp1 hbl hK0 hi5 hz0 hz1 hz2
  go_enter Tryd.func13, Tryd.ntmps13
  go_wp2_with (at_builtin; refine wpList_append_sl (lo := S + 1) (m := m) (n := len) (r := byte c) (q := byte (fun j => c (m + j))) (v := rest) (x := .slice xa len xcap) rfl _ _ 22 22 rfl 5 i5 (.int .u8 0) 1 Tryd.underlying22 HI5.out HZ0.out rfl HZ1.out HZ2.out rfl rfl (SL1.out _) (SRC1.out _) (fun j _ => byte_one c j) (by simp; omega) (by omega) (by omega) ?_; intro v' w1 hs1 hg1 ho1; obtain ⟨a1, cap1, rfl⟩ := hs1.form; have st2 := (ST1.out (IntKind.u64.wrap (n + (len : Int)))).kept (hg1.block S (by simp; exact hlt) (fun e => by have := HBL.out S e.symm; omega)); have ST2 := Lib.hid st2; have c8' : w1.cell? ⟨S, 8, none⟩ = some rest := st2.cell 8; have f8' := st2.free 8; have HS1 := Lib.hid hs1; have HG1 := Lib.hid hg1; have HO1 := Lib.hid ho1; clear st2 hs1 hg1 ho1)
  have kp2 : Keeps w w1 S rest.ownBlock := (KP1.out _).grown HG1.out (fun k hk => .inl hk)
  have sl2 : Sl (w1.setCell ⟨S, 8, none⟩ (.slice a1 (m + len) cap1)) (S + 1) (.slice a1 (m + len) cap1) (m + len) (byte c) := by
    refine (HS1.out.congr (joined_byte c)).kept (Nat.le_refl _) (by simp) (fun k hk => heap_setCell_other w1 _ _ _ ?_)
    have := (HS1.out.block k hk).1
    simp; omega
  have own2 : ∀ b, (Value.slice a1 (m + len) cap1).ownBlock = some b → rest.ownBlock = some b ∨ w.heap.size ≤ b := by
    intro b hb
    rcases HO1.out with e | e
    · exact .inl (by rw [← e]; exact hb)
    · rw [hb] at e
      have : b = w.heap.size := by simpa using e
      exact .inr (by omega)
  have hw0 : Wr w (w1.setCell ⟨S, 8, none⟩ (.slice a1 (m + len) cap1)) S (m + len) h c rest.ownBlock (IntKind.u64.wrap (n + (len : Int))) 0 (.slice a1 (m + len) cap1) :=
    ⟨ST2.out.setRest _, sl2.congr (fun j _ => by show byte c j = byte _ j; unfold byte; simp), kp2.setCell 8 _, own2, by omega⟩
  clear kp2 sl2 own2 ST2 HS1 HG1 HO1 SL1 SRC1 ST1 KP1 c8' f8' c8 c9 f8 f9
  generalize w1.setCell ⟨S, 8, none⟩ (.slice a1 (m + len) cap1) = w2 at *
  generalize hn' : IntKind.u64.wrap (n + (len : Int)) = n' at *
  have HN := Lib.hid hn'
  clear hn'
  go_loopg [] (m + len) (fun k wr => ∃ kk rest', k + 64 * kk = m + len ∧ Wr w wr S (m + len) h c rest.ownBlock n' kk rest')
  case atStart => exact ⟨0, _, rfl, hw0⟩
  case round =>
    obtain ⟨kk, rest', hk, hw⟩ := hrel
    obtain ⟨ra, rcap, rfl⟩ := hw.sl.form
    have c8 : wr.cell? ⟨S, 8, none⟩ = some (.slice ra (m + len - 64 * kk) rcap) := hw.st.cell 8
    have hm' : m + len - 64 * kk = gk := by omega
    rw [hm'] at c8
    have HW := Lib.hid hw
    by_cases h64 : 64 ≤ gk
    · have c0 := hw.st.cell 0; have c1 := hw.st.cell 1; have c2 := hw.st.cell 2; have c3 := hw.st.cell 3
      have c4 := hw.st.cell 4; have c5 := hw.st.cell 5; have c6 := hw.st.cell 6; have c7 := hw.st.cell 7
      simp only [stCells, List.getElem?_toArray, List.getElem?_cons_zero, List.getElem?_cons_succ] at c0 c1 c2 c3 c4 c5 c6 c7
      clear hw
      obtain ⟨g, off, rfl, hgS, hgl, hcap, hcell⟩ : ∃ g off, ra = some ⟨g, off, none⟩ ∧ S + 1 ≤ g ∧ g < wr.heap.size ∧ gk ≤ rcap ∧ ∀ j, j < 64 → wr.cell? ⟨g, off + j, none⟩ = some (.int .u8 (c (64 * kk + j))) := by
        rcases HW.out.sl with ⟨h1, h2⟩ | ⟨g, off, cap, h1, h2, h3, h4, _, _, _, h5⟩
        · omega
        · simp only [Value.slice.injEq] at h1
          obtain ⟨rfl, _, rfl⟩ := h1
          exact ⟨g, off, rfl, h2, h3, by omega, fun j hj => h5 j (by omega)⟩
      have HCELL := Lib.hid hcell
      clear hcell
      have hcall : ∀ ww : World, ww.heap = wr.heap → _ := fun ww e => piece18 (hsF h c kk) (fun j => c (64 * kk + j)) g off 64 rcap ww (by omega) (by rw [e]; exact hgl) (by rw [e]; omega)
        (fun j hj => (World.cell?_of_block (w := wr) (a := ⟨g, off + j, none⟩) (by rw [e])).trans (HCELL.out j hj)) (fun j => HC0.out _) (fun j => HC1.out _)
        (fun j hj => by
          have e1 : ww.heap[0]? = w.heap[0]? := by rw [e]; exact HW.out.keeps.block 0 (by omega) (by omega) (fun e => HK0.out e.symm)
          exact (World.cell?_of_block (w := w) (a := ⟨0, j, none⟩) e1).trans (HK.out j hj))
      have HCALL := Lib.hid hcall
      clear hcall
      go_wp2_with fail
      refine wp_region_steps [.inl [0, 1, 2, 3, 5, 6, 7], .inr [4, 8, 9]] [10, 11, 12, 13] (by kernel_rfl) (by kernel_rfl) (fun _ _ _ d _ h => by cases d <;> exact h) ?_
      simp only [wpSteps, pick, List.getD_cons_zero, List.getD_cons_succ]
      repeat (go_big_quiet_step (fail))
      refine wpQuiet_nil ?_
      repeat (go_big_quiet_step (fail))
      refine wpQuiet_nil ?_
      intro wq hwq
      obtain ⟨nq, rfl⟩ := hwq
      have hpc := HCALL.out (wr.drewN (1 + nq)) rfl
      have HPC := Lib.hid hpc
      clear hpc
      have hsz := HW.out.st.lt
      have hc2 : rcap = 64 ∨ ¬ rcap = 64 := by omega
      rcases hc2 with rfl | hc2
      all_goals
        go_wp2_with fail
        refine HPC.out.mono ?_
        rintro e w3 ⟨rfl, hb3⟩
        have st3 : StB w3 S (hsF h c kk) _ n' := HW.out.st.kept (hb3.block S hsz)
        rw [hm'] at st3
        have e0 := st3.cell 0; have e1 := st3.cell 1; have e2 := st3.cell 2; have e3 := st3.cell 3
        have e4 := st3.cell 4; have e5 := st3.cell 5; have e6 := st3.cell 6; have e7 := st3.cell 7
        have g0 := st3.free 0; have g1 := st3.free 1; have g2 := st3.free 2; have g3 := st3.free 3
        have g4 := st3.free 4; have g5 := st3.free 5; have g6 := st3.free 6; have g7 := st3.free 7
        have e8 := st3.cell 8
        simp only [stCells, List.getElem?_toArray, List.getElem?_cons_zero, List.getElem?_cons_succ] at e0 e1 e2 e3 e4 e5 e6 e7 e8
        have g8 := st3.free 8
        have ST3 := Lib.hid st3; have HB3 := Lib.hid hb3
        clear st3 hb3 c0 c1 c2 c3 c4 c5 c6 c7 c8
        go_wp2_with fail
      all_goals
        go_roundg (gk - 64)
        case measure => omega
        case rel =>
          refine ⟨kk + 1, _, by omega, HW.out.next (nq := 1 + nq) (by omega) HB3.out ?_⟩
          rw [hm']
          first
            | (rw [show gk - 64 = 0 by omega]; rfl)
            | (rw [if_neg (by assumption)]; rfl)
    · have ek : (m + len) / 64 = kk := by omega
      have eg : (m + len) % 64 = gk := by omega
      have hfin : StB wr S (hsF h c ((m + len) / 64)) (.slice ra (m + len - 64 * kk) rcap) n' ∧ Sl wr (S + 1) (.slice ra (m + len - 64 * kk) rcap) ((m + len) % 64) (byte (fun j => c (64 * ((m + len) / 64) + j))) ∧
          Keeps w wr S rest.ownBlock ∧ (∀ b, (Value.slice ra (m + len - 64 * kk) rcap).ownBlock = some b → rest.ownBlock = some b ∨ w.heap.size ≤ b) := by
        rw [ek, eg]
        refine ⟨hw.st, ?_, hw.keeps, hw.own⟩
        have := hw.sl
        rw [hm'] at this ⊢
        exact this
      have HF := Lib.hid hfin
      clear hfin hw ek eg
      go_wp2
      go_end0
      exact ⟨rfl, _, by rw [HN.out]; exact HF.out⟩
end Go.Proofs.YtgfkmbdipemgmaaDoor
