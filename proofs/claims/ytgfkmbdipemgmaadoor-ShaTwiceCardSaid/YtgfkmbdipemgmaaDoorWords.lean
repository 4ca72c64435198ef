/- Rows of words: what can be read of them, and an append of one word. -/
import Derived.Test.YtgfkmbdipemgmaaDoorState
import Derived.Test.YtgfkmbdipemgmaaDoorSmall
namespace Go.Proofs.YtgfkmbdipemgmaaDoor
open Go Go.RowKit

def word (f : Nat → Int) (j : Nat) : Value := .int .u32 (f j)
theorem word_one (f : Nat → Int) (j : Nat) : (word f j).oneCell' = true := rfl

/-- v is a slice of n words that can be read. -/
def RW (w : World) (v : Value) (n : Nat) (f : Nat → Int) : Prop :=
  ∃ g off cap, v = .slice (some ⟨g, off, none⟩) n cap ∧ g < w.heap.size ∧ n ≤ cap ∧ cap ≤ maxLen ∧ ∀ j, j < n → w.cell? ⟨g, off + j, none⟩ = some (.int .u32 (f j))

theorem RW.below {w w' : World} {v : Value} {n : Nat} {f : Nat → Int} (h : RW w v n f) (b : Below w.heap.size w w') : RW w' v n f := by
  obtain ⟨g, off, cap, rfl, h1, h2, h2', h3⟩ := h
  exact ⟨g, off, cap, rfl, Nat.lt_of_lt_of_le h1 b.size, h2, h2', fun j hj => (b.cell (p := ⟨g, off + j, none⟩) h1).trans (h3 j hj)⟩

theorem RW.drewN {w : World} {v : Value} {n : Nat} {f : Nat → Int} (h : RW w v n f) (k : Nat) : RW (w.drewN k) v n f := h

theorem Sl.rw {w : World} {lo n : Nat} {v : Value} {f : Nat → Int} (h : Sl w lo v n (word f)) (hn : 0 < n) : RW w v n f := by
  rcases h with ⟨rfl, rfl⟩ | ⟨g, off, cap, rfl, h1, h1', h2, h2', h3, h4, h5⟩
  · omega
  · exact ⟨g, off, cap, rfl, h1', h2, h2', h5⟩

/-- An append of one word that has just been laid into a block of its own. -/
theorem wpList_append_word {ops : Array Oper} {rest : List Oper} {o : Oper} {a : Act} {W : World} {Q : Exit → Act → World → Prop} (hgd : o.guard = none) (s y : Operand)
    (ho : o.op = .call { callee := .builtin .append, args := #[s, y], argTypes := #[37, 37] }) {lo m : Nat} {v : Value} {e : Nat → Int} {b : Int} {w1 : World}
    (hv : a.eval s = v) (hy : a.eval y = .slice (some ⟨W.heap.size, 0, none⟩) 1 1) (hs : Sl W lo v m (word e)) (hB : Below lo w1 W) (hb : b = e m) (hlen : m + 1 ≤ 1000) (hlo : lo ≤ W.heap.size)
    (h : ∀ v' w', Sl w' lo v' (m + 1) (word e) → Below lo w1 w' → W.grownBy w' v.ownBlock → W.heap.size ≤ w'.heap.size → wpList Tryd.prog ops Q rest (a.put o.dst v') w') :
    wpList Tryd.prog ops Q (o :: rest) a (W.alloc (.cells #[.int .u32 b] 36)) := by
  obtain ⟨i5, hi5, hz0, hz1, hz2⟩ := info_parts info36
  have hsz : (W.alloc (.cells #[.int .u32 b] 36)).heap.size = W.heap.size + 1 := by simp
  have hsrc : Src Tryd.prog 1 37 (.slice (some ⟨W.heap.size, 0, none⟩) 1 1) 1 (cellsOf 1 (fun _ => .int .u32 b)) (W.alloc (.cells #[.int .u32 b] 36)) :=
    src_slice Tryd.underlying37 W.heap.size 0 1 1 _ (fun j hj => by
      have : j = 0 := by omega
      subst this
      rw [cell_of_row _ _ _ _ _ _ (heap_alloc_new W _)]; rfl) (fun _ _ => rfl)
  refine wpList_append_sl (lo := lo) (m := m) (n := 1) (r := word e) (q := fun _ => .int .u32 b) (v := v) (x := .slice (some ⟨W.heap.size, 0, none⟩) 1 1) hgd s y 37 37 ho 36 i5 (.int .u32 0) 4 Tryd.underlying37 hi5 hz0 rfl hz1 hz2 hv hy (hs.alloc _) hsrc (fun j _ => word_one e j) (by omega) (by omega) (by omega) ?_
  intro v' w' h1 h2 _
  have hal : W.grownBy w' v.ownBlock := ⟨h2.os, h2.tape, h2.output, by have := h2.size; omega, fun k hk hne => (h2.block k (by omega) hne).trans (Below.heap_alloc W _ k hk)⟩
  refine h v' w' (h1.congr (fun j hj => ?_)) ((hB.alloc hlo _).grown h2 (by omega) (fun k hk => (hs.block k hk).1)) hal (by have := h2.size; omega)
  unfold joined
  by_cases hjm : j < m
  · rw [if_pos hjm]
  · rw [if_neg hjm]
    have : j = m := by omega
    subst this
    unfold word
    rw [hb]

theorem word_sum' (a b c d : Int) : (a + b + c + d) % 4294967296 = ad (ad (ad d c) b) a := by unfold ad; omega

theorem Calls.quiet_of1 {P : Program} {f : FuncId} {args : Array Value} {w : World} {k n : Nat} {v : Value}
    (h : Calls P f args (w.drewN (k + n)) fun e w' => e = .returned v ∧ ∃ m, w' = (w.drewN (k + n)).drewN m) : Calls P f args (w.drewN (k + n)) fun e w'' => e = .returned v ∧ ∃ m, w'' = w.drewN (k + m) :=
  h.mono fun _ _ ⟨he, m, hm⟩ => ⟨he, n + m, by rw [hm, World.drewN_drewN, Nat.add_assoc]⟩

/-- A region whose operations read, and whose callees read or make new memory. -/
theorem wp_region_ext {P : Program} {id : Nat} {Q : Exit → Act → World → Prop} {a : Act} {w : World} {l : List Oper} (hm : P.follows .mixedOrders = true) (hB : Region.lexB .any l.toArray = true)
    (h : wpQuiet P l.toArray (fun w' => ∃ e : Ext w, w' = e.val) (fun a' => ∀ w', (∃ e : Ext w, w' = e.val) → Q .normal a' w') l a) : (Code.region id l.toArray true).wp P Q a w :=
  wp_region_quiet (C := fun w' => ∃ e : Ext w, w' = e.val) hm hB ⟨⟨w.drew, (Below.refl _ _).drew⟩, rfl⟩ (by simpa using h)

theorem below_drewN {B : Nat} {a w : World} (h : Below B a w) (n : Nat) : Below B a (w.drewN n) := ⟨h.os, h.tape, h.output, h.size, h.block⟩

theorem Calls.ext_of_draw {P : Program} {f : FuncId} {args : Array Value} {w : World} {e : Ext w} {v : Value}
    (h : Calls P f args e.val fun x w' => x = .returned v ∧ ∃ n, w' = e.val.drewN n) : Calls P f args e.val fun x w'' => x = .returned v ∧ ∃ m : Ext w, w'' = m.val :=
  h.mono fun _ _ ⟨he, n, hm⟩ => ⟨he, ⟨_, below_drewN e.below n⟩, hm⟩

theorem Calls.ext_of_below {P : Program} {f : FuncId} {args : Array Value} {w : World} {e : Ext w} {v : Value}
    (h : Calls P f args e.val fun x w' => x = .returned v ∧ Below e.val.heap.size e.val w') : Calls P f args e.val fun x w'' => x = .returned v ∧ ∃ m : Ext w, w'' = m.val :=
  h.mono fun _ _ ⟨he, hb⟩ => ⟨he, e.next hb, rfl⟩
end Go.Proofs.YtgfkmbdipemgmaaDoor
