/- A slice that the call may append to: what it holds, and what an append makes of it, whether there was room or not. -/
import Derived.Deep.AppendSrc
import Derived.Deep.Upon
import Derived.Laws.AppendOwn
import Derived.WalkKit
namespace Go.Proofs.YtgfkmbdipemgmaaDoor
open Go Go.RowKit

/-- v is a slice of m elements of one cell each, r of them: nil, or in a block from lo on that may be written to as far as the capacity goes. -/
def Sl (w : World) (lo : Nat) (v : Value) (m : Nat) (r : Nat → Value) : Prop :=
  (v = .slice none 0 0 ∧ m = 0) ∨
  ∃ g off cap, v = .slice (some ⟨g, off, none⟩) m cap ∧ lo ≤ g ∧ g < w.heap.size ∧ m ≤ cap ∧ cap ≤ maxLen ∧ (∀ j, j < cap → (w.cell? ⟨g, off + j, none⟩).isSome = true) ∧
    (∀ j, j < cap → w.frozen? ⟨g, off + j, none⟩ = false) ∧ ∀ j, j < m → w.cell? ⟨g, off + j, none⟩ = some (r j)

theorem Sl.nil (w : World) (lo : Nat) (r : Nat → Value) : Sl w lo (.slice none 0 0) 0 r := .inl ⟨rfl, rfl⟩

/-- It stays what it is where its block stays. -/
theorem Sl.kept {w w' : World} {lo lo' m : Nat} {v : Value} {r : Nat → Value} (h : Sl w lo v m r) (hlo : lo' ≤ lo) (hsz : w.heap.size ≤ w'.heap.size) (hb : ∀ k, v.ownBlock = some k → w'.heap[k]? = w.heap[k]?) : Sl w' lo' v m r := by
  rcases h with h | ⟨g, off, cap, rfl, h1, h1', h2, h2', h3, h4, h5⟩
  · exact .inl h
  · have e := hb g rfl
    refine .inr ⟨g, off, cap, rfl, Nat.le_trans hlo h1, by omega, h2, h2', fun j hj => ?_, fun j hj => ?_, fun j hj => ?_⟩
    · rw [World.cell?_of_block (w := w) e]; exact h3 j hj
    · rw [World.frozen?_of_block (w := w) e]; exact h4 j hj
    · rw [World.cell?_of_block (w := w) e]; exact h5 j hj

theorem Sl.form {w : World} {lo m : Nat} {v : Value} {r : Nat → Value} (h : Sl w lo v m r) : ∃ a cap, v = .slice a m cap := by
  rcases h with ⟨rfl, rfl⟩ | ⟨g, off, cap, rfl, _⟩
  · exact ⟨_, _, rfl⟩
  · exact ⟨_, _, rfl⟩

theorem Sl.congr {w : World} {lo m : Nat} {v : Value} {r q : Nat → Value} (h : Sl w lo v m r) (e : ∀ j, j < m → r j = q j) : Sl w lo v m q := by
  rcases h with h | ⟨g, off, cap, rfl, h1, h1', h2, h2', h3, h4, h5⟩
  · exact .inl h
  · exact .inr ⟨g, off, cap, rfl, h1, h1', h2, h2', h3, h4, fun j hj => by rw [← e j hj]; exact h5 j hj⟩

/-- Its block, if it has one, is from lo on. -/
theorem Sl.block {w : World} {lo m : Nat} {v : Value} {r : Nat → Value} (h : Sl w lo v m r) : ∀ k, v.ownBlock = some k → lo ≤ k ∧ k < w.heap.size := by
  intro k hk
  rcases h with ⟨rfl, _⟩ | ⟨g, off, cap, rfl, h1, h1', _⟩
  · cases hk
  · simp only [Value.ownBlock, Option.some.injEq] at hk; subst hk; exact ⟨h1, h1'⟩

/-- The first n elements cut off. -/
theorem Sl.drop {w : World} {lo m : Nat} {g off cap n : Nat} {r : Nat → Value} (h : Sl w lo (.slice (some ⟨g, off, none⟩) m cap) m r) (hn : n ≤ m) :
    Sl w lo (.slice (some (if cap = n then ⟨g, off, none⟩ else (⟨g, off, none⟩ : Addr).add n)) (m - n) (cap - n)) (m - n) (fun j => r (n + j)) := by
  rcases h with ⟨h, _⟩ | ⟨g', off', cap', e, h1, h1', h2, h2', h3, h4, h5⟩
  · cases h
  · simp only [Value.slice.injEq, Option.some.injEq, Addr.mk.injEq] at e
    obtain ⟨⟨rfl, rfl, _⟩, _, rfl⟩ := e
    by_cases hc : cap = n
    · rw [if_pos hc]
      exact .inr ⟨g, off, cap - n, rfl, h1, h1', by omega, by omega, fun j hj => by omega, fun j hj => by omega, fun j hj => by omega⟩
    · rw [if_neg hc]
      have ea : (⟨g, off, none⟩ : Addr).add n = ⟨g, off + n, none⟩ := by unfold Addr.add; split <;> simp_all
      rw [ea]
      refine .inr ⟨g, off + n, cap - n, rfl, h1, h1', by omega, by omega, fun j hj => ?_, fun j hj => ?_, fun j hj => ?_⟩
      · rw [Nat.add_assoc]; exact h3 (n + j) (by omega)
      · rw [Nat.add_assoc]; exact h4 (n + j) (by omega)
      · rw [Nat.add_assoc]; exact h5 (n + j) (by omega)

theorem size_setCells (g : Nat) : ∀ (vs : List Value) (o : Nat) (w : World), (w.setCells g o vs).heap.size = w.heap.size
  | [], _, _ => rfl
  | v :: r, o, w => by
    unfold World.setCells
    rw [size_setCells g r (o + 1)]
    simp
theorem tape_setCells (g : Nat) : ∀ (vs : List Value) (o : Nat) (w : World), (w.setCells g o vs).tape = w.tape
  | [], _, _ => rfl
  | v :: r, o, w => by
    unfold World.setCells
    rw [tape_setCells g r (o + 1)]
    rfl

/-- The cells of a function of the place, as a list. -/
def cellsOf (n : Nat) (q : Nat → Value) : List Value := (List.range n).map q

theorem cellsOf_length (n : Nat) (q : Nat → Value) : (cellsOf n q).length = n := by simp [cellsOf]
theorem cellsOf_get {n j : Nat} {q : Nat → Value} (h : j < n) : (cellsOf n q)[j]? = some (q j) := by simp [cellsOf, h]

section
variable {P : Program}

/-- What is read of a slice whose cells are known. -/
theorem src_slice {tx e' : TypeId} {w : World} (hk : P.underlying tx = some (.slice e')) (b off n c : Nat) (q : Nat → Value) (hc : ∀ j, j < n → w.cell? ⟨b, off + j, none⟩ = some (q j)) (h1 : ∀ j, j < n → (q j).oneCell' = true) :
    Src P 1 tx (.slice (some ⟨b, off, none⟩) n c) n (cellsOf n q) w := by
  refine Src.ofSlice w hk ⟨b, off, none⟩ n c (cellsOf n q) (by rw [cellsOf_length, Nat.mul_one]) ?_ ?_
  · intro j u hu
    have hj : j < n := by
      have := (List.getElem?_eq_some_iff.1 hu).1
      rwa [cellsOf_length] at this
    rw [cellsOf_get hj] at hu
    have ea : (⟨b, off, none⟩ : Addr).add j = ⟨b, off + j, none⟩ := by unfold Addr.add; split <;> simp_all
    rw [ea, hc j hj]; exact hu
  · intro u hu
    obtain ⟨j, hj, rfl⟩ := List.mem_map.1 hu
    exact h1 j (List.mem_range.1 hj)

theorem Sl.src {tx e' : TypeId} {w : World} {lo m : Nat} {v : Value} {r : Nat → Value} (hk : P.underlying tx = some (.slice e')) (h : Sl w lo v m r) (h1 : ∀ j, j < m → (r j).oneCell' = true) : Src P 1 tx v m (cellsOf m r) w := by
  rcases h with ⟨rfl, rfl⟩ | ⟨g, off, cap, rfl, _, _, _, _, _, _, h5⟩
  · exact Src.ofNil w hk 0
  · exact src_slice hk g off m cap r h5 h1

def joined (m : Nat) (r q : Nat → Value) (j : Nat) : Value := if j < m then r j else q (j - m)

/-- THE LAW: append, room or none. -/
theorem run_append_sl {w : World} (t tx ty e : TypeId) (i : TypeInfo) (z : Value) (bytes : Nat) (ht : P.underlying t = some (.slice e)) (hi : P.info? e = some i) (hz : i.zero = some z) (hz1 : z.cells.size = 1) (hs1 : i.size = 1) (hby : i.bytes = bytes)
    {lo m n : Nat} {v x : Value} {r q : Nat → Value} (hs : Sl w lo v m r) (hx : Src P 1 tx x n (cellsOf n q) w) (h1 : ∀ j, j < m → (r j).oneCell' = true) (hlo : lo ≤ w.heap.size)
    (hlen : (m + n) * bytes ≤ 140737488355328) (hlen' : m + n ≤ 140737488355328) :
    ∃ v' w', (Builtin.append_ #[t, tx] ty #[v, x]).run P w = .ok v' w' ∧ Sl w' lo v' (m + n) (joined m r q) ∧ w.grownBy w' v.ownBlock ∧ (v'.ownBlock = v.ownBlock ∨ v'.ownBlock = some w.heap.size) := by
  have hx' : Src P i.size tx x n (cellsOf n q) w := by rw [hs1]; exact hx
  have hgrow : ∀ (base : Option Addr) (cap : Nat) , v = .slice base m cap → cap < m + n → (∀ w' : World, w'.heap = w.heap → (Builtin.firstCells i.size m (.slice base m cap)).run P w' = .ok (cellsOf m r).toArray w') →
      ∃ v' w', (Builtin.append_ #[t, tx] ty #[v, x]).run P w = .ok v' w' ∧ Sl w' lo v' (m + n) (joined m r q) ∧ w.grownBy w' v.ownBlock ∧ (v'.ownBlock = v.ownBlock ∨ v'.ownBlock = some w.heap.size) := by
    intro base cap hv hg hold
    subst hv
    have hfit : Builtin.nextslicecap (m + n) cap * i.bytes ≤ 281474976710656 := by
      rw [hby]
      have h2 := nextslicecap_le hg
      calc Builtin.nextslicecap (m + n) cap * bytes ≤ 2 * (m + n) * bytes := Nat.mul_le_mul_right _ h2
        _ = 2 * ((m + n) * bytes) := by rw [Nat.mul_assoc]
        _ ≤ 281474976710656 := by omega
    have hrun := run_append_grow_src w t tx ty e i z ht hi hz base m cap (cellsOf m r) (hold w.drew rfl) x n (cellsOf n q) hx' hg (by omega) hfit
    refine ⟨_, _, hrun, .inr ⟨w.heap.size, 0, _, rfl, hlo, by show w.heap.size < (w.heap.push _).size; simp, grownCap_ge w _ _ _, grownCap_le_maxLen w _ _ _ (by unfold maxLen; omega), ?_, ?_, ?_⟩, ?_, .inr rfl⟩
    · intro j hj
      have e1 : (w.drew.alloc (.cells ((cellsOf m r ++ cellsOf n q).toArray ++ Builtin.zeroCells z.cells (grownCap w (m + n) cap e - (m + n))) e)).heap[w.heap.size]? = some (.cells ((cellsOf m r ++ cellsOf n q).toArray ++ Builtin.zeroCells z.cells (grownCap w (m + n) cap e - (m + n))) e) := heap_alloc_new w.drew _
      rw [cell_of_row _ _ _ _ _ _ e1]
      have hsz : ((cellsOf m r ++ cellsOf n q).toArray ++ Builtin.zeroCells z.cells (grownCap w (m + n) cap e - (m + n))).size = grownCap w (m + n) cap e := by
        have hge := grownCap_ge w (m + n) cap e
        rw [Array.size_append, size_zeroCells, hz1]
        simp only [List.size_toArray, List.length_append, cellsOf_length]
        omega
      rw [Array.getElem?_eq_getElem (by rw [hsz]; omega)]
      rfl
    · intro j _
      have e1 : (w.drew.alloc (.cells ((cellsOf m r ++ cellsOf n q).toArray ++ Builtin.zeroCells z.cells (grownCap w (m + n) cap e - (m + n))) e)).heap[w.heap.size]? = some (.cells ((cellsOf m r ++ cellsOf n q).toArray ++ Builtin.zeroCells z.cells (grownCap w (m + n) cap e - (m + n))) e) := heap_alloc_new w.drew _
      exact frozen_of_row _ _ _ _ _ e1
    · intro j hj
      have e1 : (w.drew.alloc (.cells ((cellsOf m r ++ cellsOf n q).toArray ++ Builtin.zeroCells z.cells (grownCap w (m + n) cap e - (m + n))) e)).heap[w.heap.size]? = some (.cells ((cellsOf m r ++ cellsOf n q).toArray ++ Builtin.zeroCells z.cells (grownCap w (m + n) cap e - (m + n))) e) := heap_alloc_new w.drew _
      rw [Nat.zero_add, cell_of_row _ _ _ _ _ _ e1, Array.getElem?_append_left (by simp only [List.size_toArray, List.length_append, cellsOf_length]; omega)]
      simp only [List.getElem?_toArray]
      unfold joined
      by_cases hjm : j < m
      · rw [List.getElem?_append_left (by rw [cellsOf_length]; exact hjm), cellsOf_get hjm, if_pos hjm]
      · rw [List.getElem?_append_right (by rw [cellsOf_length]; omega), cellsOf_length, cellsOf_get (by omega), if_neg hjm]
    · exact ⟨rfl, rfl, rfl, by show w.heap.size ≤ (w.heap.push _).size; simp, fun k hk _ => heap_alloc_old w.drew _ hk⟩
  rcases hs with ⟨rfl, rfl⟩ | ⟨g, off, cap, rfl, h0, h0', h2, h2', h3, h4, h5⟩
  · by_cases hn : n = 0
    · subst hn
      refine ⟨.slice none 0 0, w, ?_, .inl ⟨rfl, rfl⟩, ⟨rfl, rfl, rfl, Nat.le_refl _, fun _ _ _ => rfl⟩, .inl rfl⟩
      exact run_append_nothing w t tx ty e i ht hi none 0 0 (Nat.le_refl _) x hx'
    · exact hgrow none 0 rfl (by omega) (fun w' _ => by
        have := run_firstCells_none (P := P) w' i.size 0 0 0
        simpa [cellsOf] using this)
  · by_cases hroom : m + n ≤ cap
    · have hrun := run_append_room_src w t tx ty e i ht hi g off m cap x n (cellsOf n q) hx' hroom
        (fun j hj => by rw [cellsOf_length] at hj; rw [hs1, Nat.mul_one, Nat.add_assoc]; exact h3 (m + j) (by omega))
        (fun j hj => by rw [cellsOf_length] at hj; rw [hs1, Nat.mul_one, Nat.add_assoc]; exact h4 (m + j) (by omega))
      rw [hs1, Nat.mul_one] at hrun
      refine ⟨_, _, hrun, .inr ⟨g, off, cap, rfl, h0, ?_, hroom, h2', ?_, ?_, ?_⟩, ?_, .inl rfl⟩
      · rw [size_setCells g]; exact h0'
      · intro j hj
        by_cases hin : m ≤ j ∧ j < m + n
        · have := World.cell?_setCells_in g (cellsOf n q) (off + m) w (fun k hk => by rw [cellsOf_length] at hk; rw [Nat.add_assoc]; exact h3 (m + k) (by omega)) (j - m) (by rw [cellsOf_length]; omega)
          rw [show off + m + (j - m) = off + j by omega] at this
          rw [this]; rfl
        · rw [World.cell?_setCells_out g (cellsOf n q) (off + m) w ⟨g, off + j, none⟩ (fun _ _ => by rw [cellsOf_length]; show off + j < off + m ∨ off + m + n ≤ off + j; omega)]
          exact h3 j hj
      · intro j hj; rw [World.frozen?_setCells]; exact h4 j hj
      · intro j hj
        unfold joined
        by_cases hjm : j < m
        · rw [if_pos hjm, World.cell?_setCells_out g (cellsOf n q) (off + m) w ⟨g, off + j, none⟩ (fun _ _ => by rw [cellsOf_length]; show off + j < off + m ∨ off + m + n ≤ off + j; omega)]
          exact h5 j hjm
        · rw [if_neg hjm]
          have := World.cell?_setCells_in g (cellsOf n q) (off + m) w (fun k hk => by rw [cellsOf_length] at hk; rw [Nat.add_assoc]; exact h3 (m + k) (by omega)) (j - m) (by rw [cellsOf_length]; omega)
          rw [show off + m + (j - m) = off + j by omega] at this
          rw [this]
          have hg := cellsOf_get (q := q) (n := n) (j := j - m) (by omega)
          rw [List.getElem?_eq_getElem (by rw [cellsOf_length]; omega)] at hg
          exact hg
      · refine ⟨World.os_setCells w g _ _, ?_, World.output_setCells w g _ _, by rw [size_setCells g]; exact Nat.le_refl _, fun k hk hne => World.heap_setCells_other w g _ _ hk (fun e => hne (by rw [e]; rfl))⟩
        exact tape_setCells g _ _ w
    · refine hgrow (some ⟨g, off, none⟩) cap rfl (by omega) (fun w' hw' => ?_)
      have hc : ∀ j, j < m → w'.cell? ⟨g, off + j, none⟩ = some (r j) := fun j hj => by
        rw [World.cell?_of_block (w := w) (by rw [hw'])]; exact h5 j hj
      have := (src_slice (P := P) (tx := t) (w := w') ht g off m cap r hc h1).cells
      rw [hs1]; exact this

/-- At the operation. -/
theorem wpList_append_sl {ops : Array Oper} {rest : List Oper} {o : Oper} {a : Act} {w : World} {Q : Exit → Act → World → Prop} (hgd : o.guard = none) (s y : Operand) (t tx : TypeId)
    (ho : o.op = .call { callee := .builtin .append, args := #[s, y], argTypes := #[t, tx] })
    (e : TypeId) (i : TypeInfo) (z : Value) (bytes : Nat) (ht : P.underlying t = some (.slice e)) (hi : P.info? e = some i) (hz : i.zero = some z) (hz1 : z.cells.size = 1) (hs1 : i.size = 1) (hby : i.bytes = bytes)
    {lo m n : Nat} {v x : Value} {r q : Nat → Value} (hv : a.eval s = v) (hxv : a.eval y = x) (hs : Sl w lo v m r) (hx : Src P 1 tx x n (cellsOf n q) w) (h1 : ∀ j, j < m → (r j).oneCell' = true) (hlo : lo ≤ w.heap.size)
    (hlen : (m + n) * bytes ≤ 140737488355328) (hlen' : m + n ≤ 140737488355328)
    (h : ∀ v' w', Sl w' lo v' (m + n) (joined m r q) → w.grownBy w' v.ownBlock → (v'.ownBlock = v.ownBlock ∨ v'.ownBlock = some w.heap.size) → wpList P ops Q rest (a.put o.dst v') w') : wpList P ops Q (o :: rest) a w :=
  wpList_plain hgd fun K hK => by
    obtain ⟨v', w', hr, h2, h3, h4⟩ := run_append_sl (P := P) t tx o.type e i z bytes ht hi hz hz1 hs1 hby hs hx h1 hlo hlen hlen'
    unfold Oper.wp execOp
    simp only [ho, resolve, invoke, builtin, Sem.run_bind, Sem.run_pure, Result.andThen_ok, List.map_toArray, List.map_cons, List.map_nil, hv, hxv, hr]
    exact hK _ _ (h v' w' h2 h3 h4)
end
end Go.Proofs.YtgfkmbdipemgmaaDoor
