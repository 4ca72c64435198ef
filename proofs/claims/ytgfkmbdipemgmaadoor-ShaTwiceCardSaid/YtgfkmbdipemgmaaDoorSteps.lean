/- A region that draws its order, walked once in an order of our own: blocks of operations that look at no memory, blocks that only read, and a tail in one forced order. -/
import Derived.Test.YtgfkmbdipemgmaaDoorTail
import Derived.Orders
namespace Go.Proofs.YtgfkmbdipemgmaaDoor
open Go

section
variable {P : Program} {ops : Array Oper} {md : Region.Mode} {C : World → Prop}

/-- The operations of these numbers. -/
def pick (l : List Oper) : List Nat → List Oper
  | [] => []
  | i :: r => l.getD i default :: pick l r

/-- Does operation t wait for operation i, through others? -/
def reaches (md : Region.Mode) (ops : Array Oper) : Nat → Nat → Nat → Bool
  | 0, _, _ => false
  | f + 1, t, i => match ops[t]? with
    | some o => o.after.any fun e => Region.binds md e && (e.on == i || reaches md ops f e.on i)
    | none => false

/-- What is listed is closed: whatever an operation waits for came up ahead of it. -/
def Closed (md : Region.Mode) (ops : Array Oper) (listed : Array Bool) : Prop :=
  ∀ j oj, ops[j]? = some oj → listed.getD j false = true → ∀ e ∈ oj.after, Region.binds md e = true → listed.getD e.on false = true

theorem Closed.set {i : Nat} {listed : Array Bool} (h : Closed md ops listed) (hi : i ∈ Region.ready md ops listed) : Closed md ops (listed.setIfInBounds i true) := by
  obtain ⟨_, oi, hoi, hall⟩ := mem_ready.1 hi
  intro j oj hj hl e he hb
  by_cases hij : i = j
  · subst hij
    have : oj = oi := Option.some.inj (hj.symm.trans hoi)
    subst this
    exact getD_set_true (hall e he hb)
  · rw [getD_set_ne false hij] at hl
    exact getD_set_true (h j oj hj hl e he hb)

theorem reaches_listed {listed : Array Bool} (hc : Closed md ops listed) {i : Nat} : ∀ (f t : Nat) (ot : Oper), ops[t]? = some ot → (∀ e ∈ ot.after, Region.binds md e = true → listed.getD e.on false = true) →
    reaches md ops f t i = true → listed.getD i false = true
  | 0, _, _, _, _, h => by cases h
  | f + 1, t, ot, hot, hall, h => by
    unfold reaches at h
    rw [hot] at h
    obtain ⟨e, he, hb⟩ := Array.any_eq_true'.1 h
    simp only [Bool.and_eq_true, Bool.or_eq_true, beq_iff_eq] at hb
    have hl := hall e he hb.1
    rcases hb.2 with h1 | h1
    · rw [← h1]; exact hl
    · cases ho : ops[e.on]? with
      | none =>
        cases f with
        | zero => cases h1
        | succ f => unfold reaches at h1; rw [ho] at h1; cases h1
      | some oe => exact reaches_listed hc f e.on oe ho (fun e' he' hb' => hc e.on oe ho hl e' he' hb') h1

/-! ### a block that looks at no memory -/

/-- Operations whose outcome, where they have one, is a value. -/
def pureOp (o : Oper) : Bool := match o.op with
  | .move _ | .assign _ | .pick .. | .binOp .. | .unOp .. | .convert .. | .slice .. | .fieldAddr .. | .field .. | .indexAddr .. | .index .. | .extract .. | .makeInterface .. => true
  | .nilCheck _ => true
  | _ => false

def OnlyValue (P : Program) (s : Sem Next) : Prop := ∀ w r w', s.run P w = .ok r w' → ∃ v, r = .value v

theorem OnlyValue.bind {α : Type} {s : Sem α} {f : α → Sem Next} (h : ∀ x, OnlyValue P (f x)) : OnlyValue P (s >>= f) := by
  intro w r w' e
  rw [Sem.run_bind] at e
  cases e1 : s.run P w with
  | ok x w1 =>
    rw [e1] at e
    simp only [Result.andThen_ok] at e
    exact h x _ _ _ e
  | halt x w1 => rw [e1] at e; cases e

theorem OnlyValue.pure (v : Value) : OnlyValue P (Pure.pure (Next.value v)) := by
  intro w r w' e
  simp only [Sem.run_pure] at e
  cases e
  exact ⟨_, rfl⟩

theorem OnlyValue.panic (v : Value) : OnlyValue P (goPanic v : Sem Next) := by
  intro w r w' e
  simp [goPanic] at e

theorem OnlyValue.unsup (u : Unsupported) : OnlyValue P (unsupported u : Sem Next) := by
  intro w r w' e
  simp [unsupported] at e

theorem OnlyValue.nilDeref : OnlyValue P (runtimePanic .nilDeref : Sem Next) :=
  OnlyValue.bind fun _ => OnlyValue.panic _

theorem value_of_bind {s : Sem Value} {w w' : World} {r : Next} (h : (do let x ← s; Pure.pure (Next.value x) : Sem Next).run P w = .ok r w') : ∃ v, r = .value v :=
  OnlyValue.bind (fun x => OnlyValue.pure x) _ _ _ h

theorem value_of_pure {o : Oper} {ρ : Operand → Value} {w w' : World} {r : Next} (hp : pureOp o = true) (h : (execOp ρ o).run P w = .ok r w') : ∃ v, r = .value v := by
  unfold execOp at h
  unfold pureOp at hp
  cases ho : o.op <;> simp only [ho] at h hp <;> first
    | (cases hp; done)
    | exact value_of_bind h
    | skip
  · exact OnlyValue.pure _ _ _ _ h
  · exact OnlyValue.pure _ _ _ _ h
  · exact OnlyValue.bind (fun _ => OnlyValue.pure _) _ _ _ h
  · split at h
    · exact OnlyValue.nilDeref _ _ _ h
    · exact OnlyValue.nilDeref _ _ _ h
    · exact OnlyValue.nilDeref _ _ _ h
    · split at h
      · exact OnlyValue.nilDeref _ _ _ h
      · refine OnlyValue.bind (fun _ => OnlyValue.bind fun _ => ?_) _ _ _ h
        split
        · exact OnlyValue.bind fun _ => OnlyValue.pure _
        · exact OnlyValue.pure _
      · exact OnlyValue.pure _ _ _ _ h
    · exact OnlyValue.pure _ _ _ _ h

def pureB (md : Region.Mode) (ops : Array Oper) : List Nat → Array Bool → Bool
  | [], _ => true
  | i :: r, listed => (Region.ready md ops listed).contains i && Region.free md ops listed i && ((ops[i]?).map pureOp).getD false && pureB md ops r (listed.setIfInBounds i true)

def listAll (listed : Array Bool) : List Nat → Array Bool
  | [] => listed
  | i :: r => listAll (listed.setIfInBounds i true) r

theorem yields_of_true {o : Oper} {v : Value} {a : Act} (hn : pureOp o = true) (h : YieldsIn P ops (fun _ => True) o v a) : Yields P ops o v a := by
  rcases h with ⟨hw, hq⟩ | h
  · refine .inl ⟨hw, fun w => ?_⟩
    have h1 := hq w trivial
    unfold Oper.quietAt at h1
    generalize hr : (execOp a.eval o).run P w = r at h1
    cases r with
    | ok x w' =>
      obtain ⟨u, rfl⟩ := value_of_pure hn hr
      simp only [Oper.quietUpon] at h1
      rw [h1.1, h1.2]
    | halt x w' => exact h1.elim
  · exact .inr h

theorem pick_get {l : List Oper} {i : Nat} {o : Oper} (h : l[i]? = some o) : l.getD i default = o := by
  rw [List.getD_eq_getElem?_getD, h]; rfl

theorem wpAny_pure {Q : Exit → Act → World → Prop} (hs : Region.noSelect ops = true) (hQ : ∀ c a w d v, Q (.panic c) (Act.put a d v) w → Q (.panic c) a w) {g : Nat} {K : Act → Prop} {w : World} :
    ∀ (l : List Nat) (listed : Array Bool) (a : Act), pureB md ops l listed = true → (∀ a', K a' → wpAny P md ops Q g (listAll listed l) a' w) →
      wpQuiet P ops (fun _ => True) K (pick ops.toList l) a → wpAny P md ops Q (l.length + g) listed a w
  | [], listed, a, _, hK, h => by
    simp only [List.length_nil, Nat.zero_add]
    exact hK a h
  | i :: r, listed, a, hB, hK, h => by
    simp only [pureB, Bool.and_eq_true] at hB
    obtain ⟨⟨⟨hr, hf⟩, hp⟩, hB'⟩ := hB
    cases ho : ops[i]? with
    | none => rw [ho] at hp; cases hp
    | some o =>
      rw [ho] at hp
      have hl : ops.toList.getD i default = o := pick_get (by simpa using ho)
      simp only [pick, hl] at h
      have hst : qOp P ops (fun _ => True) i (wpQuiet P ops (fun _ => True) K (pick ops.toList r)) a := by unfold qOp; simp only [ho]; exact h
      obtain ⟨v, hy, hk⟩ := yieldsIn_of_qOp ho hst
      have e : (i :: r).length + g = (r.length + g) + 1 := by simp only [List.length_cons]; omega
      rw [e]
      exact wpAny_take ho hs hf hr (fun c a w => hQ c a w o.dst v) (yields_of_true (by simpa using hp) hy) (wpAny_pure hs hQ r _ _ hB' hK hk)

/-! ### a block that only reads -/

def outB (md : Region.Mode) (ops : Array Oper) (l : List Nat) (listed : Array Bool) : Bool :=
  (List.range ops.size).all fun t => l.contains t || listed.getD t true || l.all fun i => reaches md ops ops.size t i

def quietB (md : Region.Mode) (ops : Array Oper) : List Nat → Array Bool → Bool
  | [], _ => true
  | i :: r, listed => (Region.ready md ops listed).contains i && Region.free md ops listed i && quietB md ops r (listed.setIfInBounds i true)

structure BlkInv (md : Region.Mode) (ops : Array Oper) (l : List Nat) (listed0 listed : Array Bool) : Prop where
  closed : Closed md ops listed
  rest : ∀ t, t ∉ l → listed.getD t true = listed0.getD t true

theorem BlkInv.set {l : List Nat} {listed0 listed : Array Bool} {i : Nat} (h : BlkInv md ops l listed0 listed) (hi : i ∈ Region.ready md ops listed) (hl : i ∈ l) : BlkInv md ops l listed0 (listed.setIfInBounds i true) :=
  ⟨h.closed.set hi, fun t ht => by
    have hne : i ≠ t := fun e => by subst e; exact ht hl
    rw [getD_set_ne true hne]; exact h.rest t ht⟩

/-- While something of the block is not listed, nothing outside it is ready. -/
theorem BlkInv.inside {l : List Nat} {listed0 listed : Array Bool} {i j : Nat} (h : BlkInv md ops l listed0 listed) (hB : outB md ops l listed0 = true) (hi : i ∈ l) (hun : listed.getD i true = false)
    (hj : j ∈ Region.ready md ops listed) : j ∈ l := by
  apply Classical.byContradiction
  intro hjl
  obtain ⟨hjun, oj, hoj, hall⟩ := mem_ready.1 hj
  have hjlt : j < ops.size := (Array.getElem?_eq_some_iff.1 hoj).1
  have h1 := List.all_eq_true.1 hB j (List.mem_range.2 hjlt)
  simp only [Bool.or_eq_true, List.contains_iff_mem, hjl, false_or] at h1
  rcases h1 with h1 | h1
  · rw [← h.rest j hjl, hjun] at h1; cases h1
  · have h2 := reaches_listed h.closed _ j oj hoj hall (List.all_eq_true.1 h1 i hi)
    rw [getD_both hun] at h2
    cases h2

def wpAnyB (P : Program) (md : Region.Mode) (ops : Array Oper) (C : World → Prop) (L : Array Bool → Act → Prop) : Nat → Array Bool → Act → Prop
  | 0, listed, a => L listed a
  | f + 1, listed, a => Region.ready md ops listed ≠ [] ∧ ∀ i ∈ Region.ready md ops listed, qOp P ops C i (wpAnyB P md ops C L f (listed.setIfInBounds i true)) a

theorem wpAny_of_block {g : Nat} {L : Array Bool → Act → Prop} {Q' : Exit → Act → World → Prop} (hL : ∀ listed a w, C w → L listed a → wpAny P md ops Q' g listed a w) :
    ∀ (f : Nat) (listed : Array Bool) (a : Act) (w : World), C w → wpAnyB P md ops C L f listed a → wpAny P md ops Q' (f + g) listed a w
  | 0, listed, a, w, hw, h => by rw [Nat.zero_add]; exact hL _ _ _ hw h
  | f + 1, listed, a, w, hw, h => by
    rw [show f + 1 + g = (f + g) + 1 by omega]
    exact ⟨fun h0 => absurd h0 h.1, fun i hi => wpOp_of_qOp hw (fun a' w' hw' h' => wpAny_of_block hL f _ a' w' hw' h') (h.2 i hi)⟩

theorem wpAnyB_first {l : List Nat} {i : Nat} {oi : Oper} {v : Value} {L : Array Bool → Act → Prop} {listed0 : Array Bool} (hi : ops[i]? = some oi) (hsel : ∀ (j : Nat) (o : Oper) cs b, ops[j]? = some o → o.op ≠ .select cs b)
    (hB : outB md ops l listed0 = true) (hin : i ∈ l)
    (hdone : ∀ listed a, L listed a → ∀ j ∈ l, listed.getD j true = true) :
    ∀ (f : Nat) (listed : Array Bool) (a : Act), BlkInv md ops l listed0 listed →
      (∀ j oj, ops[j]? = some oj → j ≠ i → listed.getD j true = false → (∀ e ∈ oj.after, Region.binds md e = true → e.on ≠ i) → oi.apart ops oj = true) →
      i ∈ Region.ready md ops listed → YieldsIn P ops C oi v a →
      wpAnyB P md ops C L f (listed.setIfInBounds i true) (a.put oi.dst v) → wpAnyB P md ops C L (f + 1) listed a := by
  intro f
  induction f with
  | zero =>
    intro listed a inv _ hr hy H
    have hun := (mem_ready.1 hr).1
    refine ⟨fun h => (by rw [h] at hr; cases hr), fun j hj => ?_⟩
    by_cases hji : j = i
    · subst hji; exact hy.qOp hi H
    · exfalso
      have hjl := inv.inside hB hin hun hj
      have h1 := hdone _ _ H j hjl
      rw [getD_set_ne true (Ne.symm hji), (mem_ready.1 hj).1] at h1
      cases h1
  | succ f ih =>
    intro listed a inv hfree hr hy H
    have hun := (mem_ready.1 hr).1
    refine ⟨fun h => (by rw [h] at hr; cases hr), fun j hj => ?_⟩
    have hjl := inv.inside hB hin hun hj
    by_cases hji : j = i
    · subst hji; exact hy.qOp hi H
    · have h1 := H.2 j (ready_mono hj hji)
      obtain ⟨hjun, oj, hoj, hall⟩ := mem_ready.1 hj
      have hnot : ∀ e ∈ oj.after, Region.binds md e = true → e.on ≠ i := fun e he hb heq => by
        have h1 := hall e he hb
        rw [heq, getD_both hun] at h1
        cases h1
      have h2 := qOp_put hoj (hfree j oj hoj hji hjun hnot) (fun cs b => hsel i oi cs b hi) (fun cs b => hsel j oj cs b hoj) hy h1
      have hfree' : ∀ k ok, ops[k]? = some ok → k ≠ i → (listed.setIfInBounds j true).getD k true = false →
          (∀ e ∈ ok.after, Region.binds md e = true → e.on ≠ i) → oi.apart ops ok = true := fun k ok hk hki hun hno => by
        refine hfree k ok hk hki ?_ hno
        by_cases hjk : j = k
        · subst hjk; exact hjun
        · rw [getD_set_ne true hjk] at hun; exact hun
      refine qOp_mono (fun a' h3 => ih (listed.setIfInBounds j true) a' (inv.set hj hjl) hfree' (ready_mono hr (Ne.symm hji)) h3.1 ?_) h2
      rw [Array.setIfInBounds_comm _ _ hji]
      exact h3.2

theorem getD_self (listed : Array Bool) (i : Nat) : (listed.setIfInBounds i true).getD i true = true := by
  rcases Nat.lt_or_ge i listed.size with h' | h'
  · simp [h']
  · simp

theorem getD_listAll {j : Nat} : ∀ (l : List Nat) (listed : Array Bool), listed.getD j true = true → (listAll listed l).getD j true = true
  | [], _, h => h
  | i :: r, listed, h => getD_listAll r _ (by
      by_cases e : i = j
      · subst e
        exact getD_self listed i
      · rw [getD_set_ne true e]; exact h)

theorem mem_listAll {j : Nat} : ∀ (l : List Nat) (listed : Array Bool), j ∈ l → (listAll listed l).getD j true = true
  | i :: r, listed, h => by
    rcases List.mem_cons.1 h with e | h
    · subst e
      exact getD_listAll r _ (getD_self listed j)
    · exact mem_listAll r _ h

theorem wpAnyB_walk {l0 : List Nat} {listed0 : Array Bool} {K : Act → Prop} (hs : Region.noSelect ops = true) (hB0 : outB md ops l0 listed0 = true) :
    ∀ (l : List Nat) (listed : Array Bool) (a : Act), (∀ i ∈ l, i ∈ l0) → listAll listed l = listAll listed0 l0 → BlkInv md ops l0 listed0 listed → quietB md ops l listed = true →
      wpQuiet P ops C K (pick ops.toList l) a → wpAnyB P md ops C (fun listed' a' => listed' = listAll listed0 l0 ∧ K a') l.length listed a
  | [], _, _, _, he, _, _, h => ⟨he, h⟩
  | i :: r, listed, a, hm, he, inv, hB, h => by
    simp only [quietB, Bool.and_eq_true] at hB
    obtain ⟨⟨hr, hf⟩, hB'⟩ := hB
    have hr' : i ∈ Region.ready md ops listed := by simpa using hr
    obtain ⟨_, o, ho, _⟩ := mem_ready.1 hr'
    have hl : ops.toList.getD i default = o := pick_get (by simpa using ho)
    simp only [pick, hl] at h
    have hst : qOp P ops C i (wpQuiet P ops C K (pick ops.toList r)) a := by unfold qOp; simp only [ho]; exact h
    obtain ⟨v, hy, hk⟩ := yieldsIn_of_qOp ho hst
    have hil := hm i (List.mem_cons_self ..)
    exact wpAnyB_first ho (Region.noSelect_spec hs) hB0 hil (fun listed' a' hL j hj => by rw [hL.1]; exact mem_listAll l0 listed0 hj) r.length listed a inv (Region.free_spec ho hf) hr' hy
      (wpAnyB_walk hs hB0 r _ _ (fun j hj => hm j (List.mem_cons_of_mem _ hj)) he (inv.set hr' hil) hB' hk)

/-! ### the tail, and all together -/

/-- A block: of pure operations (left), or of reading ones (right). -/
abbrev Blk := Sum (List Nat) (List Nat)

def seqL (md : Region.Mode) (ops : Array Oper) : List Nat → Array Bool → Bool
  | [], listed => (Region.ready md ops listed).isEmpty
  | k :: r, listed => decide (Region.ready md ops listed = [k]) && seqL md ops r (listed.setIfInBounds k true)

theorem wpAny_seqL {Q : Exit → Act → World → Prop} : ∀ (l : List Nat) (listed : Array Bool) (a : Act) (w : World), seqL md ops l listed = true → wpList P ops Q (pick ops.toList l) a w → wpAny P md ops Q l.length listed a w
  | [], _, _, _, hB, h => ⟨by simpa [seqL] using hB, h⟩
  | k :: r, listed, a, w, hB, h => by
    simp only [seqL, Bool.and_eq_true, decide_eq_true_eq] at hB
    refine wpAny_all hB.1 (by simp) fun i hi => ?_
    have hik : i = k := by simpa using hi
    subst hik
    have hr : i ∈ Region.ready md ops listed := by rw [hB.1]; simp
    obtain ⟨_, o, ho, _⟩ := mem_ready.1 hr
    have hl : ops.toList.getD i default = o := pick_get (by simpa using ho)
    simp only [pick, hl] at h
    have hw : wpOp P ops Q i (wpList P ops Q (pick ops.toList r)) a w := by unfold wpOp; simp only [ho]; exact h
    exact wpOp_mono (fun a' w' h' => wpAny_seqL r _ a' w' hB.2 h') hw

def stepsB (md : Region.Mode) (ops : Array Oper) (tail : List Nat) : List Blk → Array Bool → Bool
  | [], listed => seqL md ops tail listed
  | .inl l :: r, listed => pureB md ops l listed && stepsB md ops tail r (listAll listed l)
  | .inr l :: r, listed => outB md ops l listed && quietB md ops l listed && stepsB md ops tail r (listAll listed l)

def stepsLen (tail : List Nat) : List Blk → Nat
  | [] => tail.length
  | .inl l :: r => l.length + stepsLen tail r
  | .inr l :: r => l.length + stepsLen tail r

def wpSteps (P : Program) (ops : Array Oper) (Q : Exit → Act → World → Prop) (tail : List Nat) : List Blk → Act → World → Prop
  | [], a, w => wpList P ops Q (pick ops.toList tail) a w
  | .inl l :: r, a, w => wpQuiet P ops (fun _ => True) (fun a' => wpSteps P ops Q tail r a' w) (pick ops.toList l) a
  | .inr l :: r, a, w => wpQuiet P ops (fun w' => ∃ n, w' = w.drewN n) (fun a' => ∀ w', (∃ n, w' = w.drewN n) → wpSteps P ops Q tail r a' w') (pick ops.toList l) a

theorem closed_pure : ∀ (l : List Nat) (listed : Array Bool), Closed md ops listed → pureB md ops l listed = true → Closed md ops (listAll listed l)
  | [], _, h, _ => h
  | i :: r, listed, h, hB => by
    simp only [pureB, Bool.and_eq_true] at hB
    exact closed_pure r _ (h.set (by simpa using hB.1.1.1)) hB.2

theorem closed_quiet : ∀ (l : List Nat) (listed : Array Bool), Closed md ops listed → quietB md ops l listed = true → Closed md ops (listAll listed l)
  | [], _, h, _ => h
  | i :: r, listed, h, hB => by
    simp only [quietB, Bool.and_eq_true] at hB
    exact closed_quiet r _ (h.set (by simpa using hB.1.1)) hB.2

theorem wpAny_steps {Q : Exit → Act → World → Prop} (hs : Region.noSelect ops = true) (hQ : ∀ c a w d v, Q (.panic c) (Act.put a d v) w → Q (.panic c) a w) (tail : List Nat) :
    ∀ (bs : List Blk) (listed : Array Bool) (a : Act) (w : World), Closed md ops listed → stepsB md ops tail bs listed = true → wpSteps P ops Q tail bs a w → wpAny P md ops Q (stepsLen tail bs) listed a w
  | [], listed, a, w, _, hB, h => wpAny_seqL tail listed a w hB h
  | .inl l :: r, listed, a, w, hc, hB, h => by
    simp only [stepsB, Bool.and_eq_true] at hB
    exact wpAny_pure hs hQ l listed a hB.1 (fun a' h' => wpAny_steps hs hQ tail r _ a' w (closed_pure l listed hc hB.1) hB.2 h') h
  | .inr l :: r, listed, a, w, hc, hB, h => by
    simp only [stepsB, Bool.and_eq_true] at hB
    have hw := wpAnyB_walk (P := P) (C := fun w' => ∃ n, w' = w.drewN n) (l0 := l) (listed0 := listed) hs hB.1.1 l listed a (fun _ h => h) rfl ⟨hc, fun _ _ => rfl⟩ hB.1.2 h
    exact wpAny_of_block (fun listed' a' w' hw' hL => by
      rw [hL.1]
      exact wpAny_steps hs hQ tail r _ a' w' (closed_quiet l listed hc hB.1.2) hB.2 (hL.2 w' hw')) _ _ _ w ⟨0, rfl⟩ hw

def regionB (ops : Array Oper) (bs : List Blk) (tail : List Nat) : Bool :=
  Region.noSelect ops && decide (stepsLen tail bs = ops.size) && stepsB .any ops tail bs (Array.replicate ops.size false)

/-- THE RULE: blocks in an order of our own, then the tail. -/
theorem wp_region_steps {id : Nat} {Q : Exit → Act → World → Prop} {a : Act} {w : World} {l : List Oper} (bs : List Blk) (tail : List Nat) (hm : P.follows .mixedOrders = true) (hB : regionB l.toArray bs tail = true)
    (hQ : ∀ c a w d v, Q (.panic c) (Act.put a d v) w → Q (.panic c) a w) (h : wpSteps P l.toArray Q tail bs a w.drew) : (Code.region id l.toArray true).wp P Q a w := by
  simp only [regionB, Bool.and_eq_true, decide_eq_true_eq] at hB
  refine wp_region_any hm ?_
  have := wpAny_steps (P := P) (md := .any) hB.1.1 hQ tail bs (Array.replicate l.toArray.size false) a w.drew
    (fun j oj _ hl => (by rw [getD_replicate_false] at hl; cases hl)) hB.2 h
  rw [hB.1.2] at this
  exact this
end
end Go.Proofs.YtgfkmbdipemgmaaDoor
