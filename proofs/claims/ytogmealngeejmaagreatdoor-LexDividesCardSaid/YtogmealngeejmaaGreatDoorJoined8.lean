import Derived.Test.YtogmealngeejmaaGreatDoorJoined2
import Derived.OrdersIn
import Derived.TacticsIn
import Derived.RangeFuncStops
/- A region that draws its order, whose first n operations are quiet and whose last ones come one behind the other, AMONG THEM A CALL OF yield: the same law, the last operations in the fenced layer (at the fence that lets everything in).
   And the call of yield itself. -/
namespace Go.Proofs.YtogmealngeejmaaGreatDoor
open Go

section
variable {P : Program} {C : World → Prop} {md : Region.Mode} {N : Nat}

theorem wpIn_of_quiet {o : Oper} {a : Act} {K : Act → Prop} {K' : Act → World → Prop} {Q' : Exit → Act → World → Prop} {w : World} (hw : C w) (h : ∀ a w', C w' → K a → K' a w') (hh : o.quiet P a C K) :
    o.wpIn Fence.wide N P a w K' Q' := by
  obtain ⟨v, h1, h2⟩ := hh
  have h3 := h1 w hw
  unfold Oper.quietAt at h3
  refine ⟨fun _ _ => trivial, ?_⟩
  show Oper.uponIn Fence.wide N P o a K' Q' ((execOp a.eval o).run P w)
  generalize (execOp a.eval o).run P w = r at *
  cases r with
  | ok x w' =>
    cases x <;> simp only [Oper.quietUpon] at h3 <;> simp only [Oper.uponIn]
    case value u =>
      obtain ⟨e1, e2⟩ := h3
      rw [e1, e2]
      exact h _ _ hw h2
    case skip =>
      obtain ⟨e1, e2⟩ := h3
      rw [e1, ← e2]
      exact h _ _ hw h2
    case enter f args =>
      obtain ⟨e1, hc⟩ := h3
      rw [e1]
      exact ⟨fun hd => by simp [Fence.wide] at hd, callsIn_wide.2 (hc.mono fun e w'' ⟨he, hw''⟩ => by subst he; exact h _ _ hw'' h2)⟩
  | halt x w' => simp only [Oper.quietUpon] at h3

theorem wpOpIn_of_qOp {ops : Array Oper} {Q' : Exit → Act → World → Prop} {i : Nat} {a : Act} {K : Act → Prop} {K' : Act → World → Prop} {w : World} (hC : C w) (h : ∀ a w', C w' → K a → K' a w') (hh : qOp P ops C i K a) :
    wpOpIn Fence.wide N P ops Q' i K' a w := by
  unfold qOp at hh
  unfold wpOpIn
  split
  · rename_i ho; simp only [ho] at hh; exact h _ _ hC hh
  · rename_i o ho
    simp only [ho] at hh
    split
    · rename_i hw; simp only [hw, if_true] at hh; exact wpIn_of_quiet hC h hh
    · rename_i hw; simp only [hw] at hh; exact ⟨fun _ _ => trivial, h _ _ hC hh⟩

theorem seq_moreIn {Q' : Exit → Act → World → Prop} {ops : Array Oper} : ∀ (l : List Oper) (k : Nat) (x : Nat) (listed : Array Bool) (a : Act) (w : World), (∀ j, l[j]? = ops[k + j]?) →
    Region.seqB md ops l.length k listed = true → wpListIn Fence.wide N P ops Q' l a w → wpAnyIn Fence.wide N P md ops Q' (x + l.length) listed a w
  | [], _, x, listed, a, w, _, hB, h => by
    have h0 : Region.ready md ops listed = [] := by simpa [Region.seqB] using hB
    cases x with
    | zero => exact ⟨h0, h⟩
    | succ x => exact ⟨fun _ => h, fun i hi => by rw [h0] at hi; cases hi⟩
  | o :: l, k, x, listed, a, w, hl, hB, h => by
    have h0 : ops[k]? = some o := by simpa using (hl 0).symm
    simp only [List.length_cons, Region.seqB, Bool.and_eq_true, decide_eq_true_eq] at hB
    rw [List.length_cons, ← Nat.add_assoc]
    refine ⟨fun h1 => (by rw [hB.1] at h1; cases h1), fun i hi => ?_⟩
    rw [hB.1] at hi
    have hik : i = k := by simpa using hi
    subst hik
    have hw : wpOpIn Fence.wide N P ops Q' i (wpListIn Fence.wide N P ops Q' l) a w := by unfold wpOpIn; simp only [h0]; exact h
    exact wpOpIn_mono (fun a' w' h' => seq_moreIn l (i + 1) x _ a' w' (fun j => by have := hl (j + 1); simpa [Nat.add_assoc, Nat.add_comm 1 j] using this) hB.2 h') hw

theorem heads_firstIn {Q' : Exit → Act → World → Prop} {l : List Oper} {n : Nat} (hback : backB md l = true) (hg : guardB n l = true) (hn : n < l.length)
    (hs : Region.sinkB md l.toArray n = true) (hc : Region.chainB md l.toArray n = true)
    (hq : Region.seqB md l.toArray (l.length - n) n (Array.replicate n true ++ Array.replicate (l.length - n) false) = true) :
    ∀ (f : Nat) (listed : Array Bool) (a : Act) (w : World), C w → HeadInv md l.toArray n listed →
      wpAnyQ P md (l.take n).toArray C (fun a' => ∀ w', C w' → wpListIn Fence.wide N P l.toArray Q' (l.drop n) a' w') f (listed.take n) a →
      wpAnyIn Fence.wide N P md l.toArray Q' (f + (l.length - n)) listed a w := by
  have full : ∀ (listed : Array Bool), listed.size = l.length → (∀ i, i < n → listed.getD i true = true) → HeadInv md l.toArray n listed → listed = Array.replicate n true ++ Array.replicate (l.length - n) false := by
    intro listed hz hall inv
    apply Array.ext
    · simp; omega
    · intro i h1 h2
      by_cases hi : i < n
      · have := hall i hi; simpa [Array.getElem_append, hi, h1] using this
      · have := inv.tail i (by omega) (by simp; omega); simpa [Array.getElem_append, hi, h1] using this
  have hd : (l.drop n).length = l.length - n := by simp
  intro f
  induction f with
  | zero =>
    intro listed a w hC inv h
    have hz : listed.size = l.length := by simpa using inv.size
    have hall : ∀ i, i < n → listed.getD i true = true := by
      intro i hi
      cases hu : listed.getD i true with
      | true => rfl
      | false =>
        obtain ⟨j, hj, hr⟩ := ready_least hback hz hu
        have := (ready_take hback (by omega : j < n)).2 hr
        rw [h.1] at this; cases this
    have := seq_moreIn (N := N) (P := P) (Q' := Q') (md := md) (l.drop n) n 0 listed a w (fun j => by simp [List.getElem?_drop]) (by rw [hd, full listed hz hall inv]; exact hq) (h.2 w hC)
    rwa [hd] at this
  | succ f ih =>
    intro listed a w hC inv h
    have hz : listed.size = l.length := by simpa using inv.size
    by_cases hall : ∀ i, i < n → listed.getD i true = true
    · have hr0 : Region.ready md (l.take n).toArray (listed.take n) = [] := by
        rw [List.eq_nil_iff_forall_not_mem]
        intro j hj
        have hjn : j < n := by
          obtain ⟨_, o, ho, _⟩ := mem_ready.1 hj
          have := (Array.getElem?_eq_some_iff.1 ho).1
          simp at this; omega
        have h1 := (mem_ready.1 hj).1
        rw [getD_take hjn, hall j hjn] at h1; cases h1
      have := seq_moreIn (N := N) (P := P) (Q' := Q') (md := md) (l.drop n) n (f + 1) listed a w (fun j => by simp [List.getElem?_drop]) (by rw [hd, full listed hz hall inv]; exact hq) (h.1 hr0 w hC)
      rwa [hd] at this
    · obtain ⟨i0, hi0⟩ := Classical.not_forall.1 hall
      obtain ⟨hi0n, hu⟩ := Classical.not_imp.1 hi0
      have hu : listed.getD i0 true = false := by simpa using hu
      obtain ⟨j, hj, hr⟩ := ready_least hback hz hu
      rw [show f + 1 + (l.length - n) = (f + (l.length - n)) + 1 by omega]
      refine ⟨fun h0 => (by rw [h0] at hr; cases hr), fun i hi => ?_⟩
      have hin : i < n := by
        rcases Nat.lt_or_ge i n with h' | h'
        · exact h'
        · exact absurd hi (tail_waits hs hc (by simpa using hn) inv _ i0 rfl hi0n hu i h')
      have h1 := h.2 i ((ready_take hback hin).2 hi)
      refine wpOpIn_of_qOp hC (fun a' w' hw' hk => ih (listed.setIfInBounds i true) a' w' hw' (inv.set hi hin) ?_) (qOp_take hg hin h1)
      have e : (listed.setIfInBounds i true).take n = (listed.take n).setIfInBounds i true := by
        apply Array.ext
        · simp
        · intro k h1 h2
          simp only [Array.take_eq_extract] at h1 h2 ⊢
          have h3 : k < (listed.extract 0 n).size := by simpa using h2
          have h4 : k < listed.size := by simp at h3; omega
          rw [Array.getElem_extract, Array.getElem_setIfInBounds (by simpa using h4), Array.getElem_setIfInBounds h3, Array.getElem_extract]
          simp
      rw [e]; exact hk

/-- THE LAW, at the class 'w behind some draws'. -/
theorem wp_draw_tail_in {id : Nat} {Q : Exit → Act → World → Prop} {a : Act} {w : World} {l : List Oper} (n : Nat) (hm : P.follows .mixedOrders = true)
    (hB : (Region.lexB .any (l.take n).toArray && backB .any l && guardB n l && decide (n < l.length) && Region.sinkB .any l.toArray n && Region.chainB .any l.toArray n &&
      Region.seqB .any l.toArray (l.length - n) n (Array.replicate n true ++ Array.replicate (l.length - n) false)) = true)
    (h : wpQuiet P (l.take n).toArray (fun w' => ∃ n, w' = w.drewN n) (fun a' => ∀ w', (∃ n, w' = w.drewN n) → wpListIn Fence.wide 0 P l.toArray Q (l.drop n) a' w') (l.take n) a) : (Code.region id l.toArray true).wp P Q a w := by
  refine (wpIn_wide (n := 0)).1 ?_
  simp only [Bool.and_eq_true, decide_eq_true_eq] at hB
  obtain ⟨⟨⟨⟨⟨⟨hlex, hback⟩, hg⟩, hn⟩, hs⟩, hc⟩, hq⟩ := hB
  simp only [Region.lexB, Bool.and_eq_true] at hlex
  have inv0 : HeadInv .any l.toArray n (Array.replicate l.toArray.size false) :=
    ⟨by simp, fun j oj _ hl => (by rw [getD_replicate_false] at hl; cases hl), fun t _ ht => getD_in (by simpa using ht) (getD_replicate_false _ _)⟩
  have H := wpAnyQ_lex (P := P) (C := fun w' => ∃ n, w' = w.drewN n) (md := .any) (Q := fun a' => ∀ w', (∃ n, w' = w.drewN n) → wpListIn Fence.wide 0 P l.toArray Q (l.drop n) a' w') hlex.1 (l.take n) 0 (Array.replicate (l.take n).toArray.size false) a (by simp) (by simpa using hlex.2) h
  have e : (Array.replicate l.toArray.size false).take n = Array.replicate (l.take n).toArray.size false := by
    apply Array.ext
    · simp
    · intro k h1 h2; simp
  refine wpIn_region_any hm ?_
  have := heads_firstIn (P := P) (N := 0) (C := fun w' => ∃ n, w' = w.drewN n) (md := .any) (Q' := Q) hback hg hn hs hc hq (l.take n).length (Array.replicate l.toArray.size false) a { w with drawn := w.drawn + 1 } ⟨1, rfl⟩ inv0 (by rw [e]; exact H)
  rw [show (l.take n).length + (l.length - n) = l.toArray.size by simp; omega] at this
  exact this

/-- A call of yield: what the round promises, and what follows. -/
theorem wpListIn_yield {ops : Array Oper} {Q : Exit → Act → World → Prop} {dst : Option Tmp} {x y : Operand} {ts : Array TypeId} {ty : TypeId} {pos : String} {after : Array Edge} {rest : List Oper} {a : Act} {w : World} {l : Nat} {v : Value} {R : Ending → World → Prop}
    (hx : a.eval x = .func (.yield l) #[] #[]) (hv : a.eval y = v) (hy : YieldAt Fence.wide 0 P l #[v] w R)
    (h : ∀ e w', R e w' → match e with
      | .returned u => wpListIn Fence.wide 0 P ops Q rest (a.put dst u) w'
      | .panicked chain => Q (.panic chain) a w'
      | .outgrown => LetsOut Q) :
    wpListIn Fence.wide 0 P ops Q ({ dst, op := .call { callee := .value x, args := #[y], argTypes := ts }, type := ty, pos, after, guard := none } :: rest) a w := by
  refine wpListIn_plain rfl fun K hK => ?_
  refine ⟨fun _ _ => trivial, ?_⟩
  obtain ⟨fn, tmps, assign, body, hrun, hround⟩ := hy
  have hex : (execOp a.eval { dst, op := .call { callee := .value x, args := #[y], argTypes := ts }, type := ty, pos, after, guard := none }).run P w = .ok (.round l fn tmps assign body) w := by
    simp [execOp, resolve, invoke, hx, hv, Deferred.ofValue, hrun]
  show Oper.uponIn Fence.wide 0 P _ a K Q ((execOp a.eval { dst, op := .call { callee := .value x, args := #[y], argTypes := ts }, type := ty, pos, after, guard := none }).run P w)
  rw [hex]
  refine ⟨fun hd => by simp [Fence.wide] at hd, hround.mono ?_⟩
  intro e w' hr
  have := h e w' hr
  cases e with
  | returned u => exact hK _ _ this
  | panicked chain => exact this
  | outgrown => exact this
end

end Go.Proofs.YtogmealngeejmaaGreatDoor
