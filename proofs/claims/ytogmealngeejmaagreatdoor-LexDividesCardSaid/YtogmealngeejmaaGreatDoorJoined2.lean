import Derived.Deep.QuietTactic
import Derived.StillTailTactics
/- A region that draws its order, whose first n operations are quiet (they read, or call what only reads) and whose last ones come one behind the other, behind all of these: one walk in the order of the text.
   Proved out of the law on quiet regions, for the first n operations taken as a region of their own. -/
namespace Go.Proofs.YtogmealngeejmaaGreatDoor
open Go

section
variable {P : Program} {C : World → Prop} {md : Region.Mode}

/-- Each binding edge leads back. -/
def backB (md : Region.Mode) (l : List Oper) : Bool := l.zipIdx.all fun (o, i) => o.after.all fun e => !Region.binds md e || decide (e.on < i)
/-- The guards of the first n operations look at these. -/
def guardB (n : Nat) (l : List Oper) : Bool := (l.take n).all fun o => match o.guard with | some (j, _) => decide (j < n) | none => true

theorem backB_spec {l : List Oper} (h : backB md l = true) {i : Nat} {o : Oper} (hi : l[i]? = some o) : ∀ e ∈ o.after, Region.binds md e = true → e.on < i := by
  intro e he hb
  have h1 := List.all_eq_true.1 h (o, i) (by rw [List.mem_zipIdx_iff_getElem?]; exact hi)
  have h2 := Array.all_eq_true_iff_forall_mem.1 h1 e he
  simpa [hb] using h2

/-- Where something is unlisted, something is ready. -/
theorem ready_least {l : List Oper} (h : backB md l = true) {listed : Array Bool} (hz : listed.size = l.length) {i : Nat} (hi : listed.getD i true = false) : ∃ j, j ≤ i ∧ j ∈ Region.ready md l.toArray listed := by
  induction i using Nat.strongRecOn with
  | _ i ih =>
    have hil : i < l.length := by
      rcases Nat.lt_or_ge i listed.size with h' | h'
      · omega
      · simp [Array.getElem?_eq_none h'] at hi
    by_cases hex : ∃ e ∈ l[i].after, Region.binds md e = true ∧ listed.getD e.on false = false
    · obtain ⟨e, he, hb, hl⟩ := hex
      have hlt := backB_spec h (List.getElem?_eq_getElem hil) e he hb
      obtain ⟨j, hj, hr⟩ := ih e.on hlt (getD_in (by omega) hl)
      exact ⟨j, by omega, hr⟩
    · refine ⟨i, Nat.le_refl _, mem_ready.2 ⟨hi, l[i], by simp [hil], fun e he hb => ?_⟩⟩
      cases hl : listed.getD e.on false with
      | true => rfl
      | false => exact absurd ⟨e, he, hb, hl⟩ hex

theorem getD_take {listed : Array Bool} {n i : Nat} (hi : i < n) (d : Bool) : (listed.take n).getD i d = listed.getD i d := by
  simp only [Array.getD_eq_getD_getElem?, Array.take_eq_extract, Array.getElem?_extract]
  rcases Nat.lt_or_ge i listed.size with h | h
  · rw [if_pos (by omega)]; simp
  · rw [if_neg (by omega)]; simp [Array.getElem?_eq_none h]

theorem ready_take {l : List Oper} (h : backB md l = true) {listed : Array Bool} {n i : Nat} (hi : i < n) : i ∈ Region.ready md (l.take n).toArray (listed.take n) ↔ i ∈ Region.ready md l.toArray listed := by
  rw [mem_ready, mem_ready, getD_take hi]
  have e : (l.take n).toArray[i]? = l.toArray[i]? := by simp [hi]
  rw [e]
  refine and_congr_right fun _ => exists_congr fun o => and_congr_right fun ho => forall_congr' fun e => ?_
  refine forall_congr' fun he => forall_congr' fun hb => ?_
  rw [getD_take (by have := backB_spec h (by simpa using ho) e he hb; omega)]

theorem yielded_take {l : List Oper} {tmps : Array Value} {n j : Nat} (hj : j < n) : yielded (l.take n).toArray tmps j = yielded l.toArray tmps j := by
  unfold yielded
  rw [show (l.take n).toArray[j]? = l.toArray[j]? by simp [hj]]

theorem wanted_take {l : List Oper} {n i : Nat} (hg : guardB n l = true) (hi : i < n) {o : Oper} (ho : l[i]? = some o) (tmps : Array Value) :
    Region.wanted o (yielded (l.take n).toArray tmps) = Region.wanted o (yielded l.toArray tmps) := by
  have h1 := List.all_eq_true.1 hg o (by
    rw [List.mem_iff_getElem?]; exact ⟨i, by rw [List.getElem?_take, if_pos hi]; exact ho⟩)
  unfold Region.wanted
  cases hgd : o.guard with
  | none => rfl
  | some g =>
    obtain ⟨j, b⟩ := g
    simp only [hgd, decide_eq_true_eq] at h1
    simp only [yielded_take h1]

theorem qOp_take {l : List Oper} {n i : Nat} (hg : guardB n l = true) (hi : i < n) {K : Act → Prop} {a : Act} (h : qOp P (l.take n).toArray C i K a) : qOp P l.toArray C i K a := by
  unfold qOp at h ⊢
  rw [show (l.take n).toArray[i]? = l.toArray[i]? by simp [hi]] at h
  cases ho : l.toArray[i]? with
  | none => simpa [ho] using h
  | some o =>
    simp only [ho] at h ⊢
    rwa [wanted_take hg hi (by simpa using ho)] at h

theorem seq_more {Q' : Exit → Act → World → Prop} {ops : Array Oper} : ∀ (l : List Oper) (k : Nat) (x : Nat) (listed : Array Bool) (a : Act) (w : World), (∀ j, l[j]? = ops[k + j]?) →
    Region.seqB md ops l.length k listed = true → wpList P ops Q' l a w → wpAny P md ops Q' (x + l.length) listed a w
  | [], _, x, listed, a, w, _, hB, h => by
    have h0 : Region.ready md ops listed = [] := by simpa [Region.seqB] using hB
    cases x with
    | zero => exact ⟨h0, h⟩
    | succ x => exact ⟨fun _ => h, fun i hi => by rw [h0] at hi; cases hi⟩
  | o :: l, k, x, listed, a, w, hl, hB, h => by
    have h0 : ops[k]? = some o := by simpa using (hl 0).symm
    simp only [List.length_cons, Region.seqB, Bool.and_eq_true, decide_eq_true_eq] at hB
    rw [List.length_cons, ← Nat.add_assoc]
    refine ⟨fun h1 => (by rw [hB.1] at h1; cases h1), fun i hi => ?_⟩
    rw [hB.1] at hi
    have hik : i = k := by simpa using hi
    subst hik
    have hw : wpOp P ops Q' i (wpList P ops Q' l) a w := by unfold wpOp; simp only [h0]; exact h
    exact wpOp_mono (fun a' w' h' => seq_more l (i + 1) x _ a' w' (fun j => by have := hl (j + 1); simpa [Nat.add_assoc, Nat.add_comm 1 j] using this) hB.2 h') hw

theorem heads_first {Q' : Exit → Act → World → Prop} {l : List Oper} {n : Nat} (hback : backB md l = true) (hg : guardB n l = true) (hn : n < l.length)
    (hs : Region.sinkB md l.toArray n = true) (hc : Region.chainB md l.toArray n = true)
    (hq : Region.seqB md l.toArray (l.length - n) n (Array.replicate n true ++ Array.replicate (l.length - n) false) = true) :
    ∀ (f : Nat) (listed : Array Bool) (a : Act) (w : World), C w → HeadInv md l.toArray n listed →
      wpAnyQ P md (l.take n).toArray C (fun a' => ∀ w', C w' → wpList P l.toArray Q' (l.drop n) a' w') f (listed.take n) a →
      wpAny P md l.toArray Q' (f + (l.length - n)) listed a w := by
  intro f
  induction f with
  | zero =>
    intro listed a w hC inv h
    have hz : listed.size = l.length := by simpa using inv.size
    have hall : ∀ i, i < n → listed.getD i true = true := by
      intro i hi
      cases hu : listed.getD i true with
      | true => rfl
      | false =>
        obtain ⟨j, hj, hr⟩ := ready_least hback hz hu
        have := (ready_take hback (by omega : j < n)).2 hr
        rw [h.1] at this; cases this
    have e : listed = Array.replicate n true ++ Array.replicate (l.length - n) false := by
      apply Array.ext
      · simp; omega
      · intro i h1 h2
        by_cases hi : i < n
        · have := hall i hi; simpa [Array.getElem_append, hi, h1] using this
        · have := inv.tail i (by omega) (by simp; omega); simpa [Array.getElem_append, hi, h1] using this
    have hd : (l.drop n).length = l.length - n := by simp
    have := seq_more (P := P) (Q' := Q') (md := md) (l.drop n) n 0 listed a w (fun j => by simp [List.getElem?_drop]) (by rw [hd, e]; exact hq) (h.2 w hC)
    rwa [hd] at this
  | succ f ih =>
    intro listed a w hC inv h
    have hz : listed.size = l.length := by simpa using inv.size
    by_cases hall : ∀ i, i < n → listed.getD i true = true
    · have e : listed = Array.replicate n true ++ Array.replicate (l.length - n) false := by
        apply Array.ext
        · simp; omega
        · intro i h1 h2
          by_cases hi : i < n
          · have := hall i hi; simpa [Array.getElem_append, hi, h1] using this
          · have := inv.tail i (by omega) (by simp; omega); simpa [Array.getElem_append, hi, h1] using this
      have hr0 : Region.ready md (l.take n).toArray (listed.take n) = [] := by
        rw [List.eq_nil_iff_forall_not_mem]
        intro j hj
        have hjn : j < n := by
          obtain ⟨_, o, ho, _⟩ := mem_ready.1 hj
          have := (Array.getElem?_eq_some_iff.1 ho).1
          simp at this; omega
        have h1 := (mem_ready.1 hj).1
        rw [getD_take hjn, hall j hjn] at h1; cases h1
      have hd : (l.drop n).length = l.length - n := by simp
      have := seq_more (P := P) (Q' := Q') (md := md) (l.drop n) n (f + 1) listed a w (fun j => by simp [List.getElem?_drop]) (by rw [hd, e]; exact hq) (h.1 hr0 w hC)
      rwa [hd] at this
    · obtain ⟨i0, hi0⟩ := Classical.not_forall.1 hall
      obtain ⟨hi0n, hu⟩ := Classical.not_imp.1 hi0
      have hu : listed.getD i0 true = false := by simpa using hu
      obtain ⟨j, hj, hr⟩ := ready_least hback hz hu
      rw [show f + 1 + (l.length - n) = (f + (l.length - n)) + 1 by omega]
      refine ⟨fun h0 => (by rw [h0] at hr; cases hr), fun i hi => ?_⟩
      have hin : i < n := by
        rcases Nat.lt_or_ge i n with h' | h'
        · exact h'
        · exact absurd hi (tail_waits hs hc (by simpa using hn) inv _ i0 rfl hi0n hu i h')
      have h1 := h.2 i ((ready_take hback hin).2 hi)
      refine wpOp_of_qOp hC (fun a' w' hw' hk => ih (listed.setIfInBounds i true) a' w' hw' (inv.set hi hin) ?_) (qOp_take hg hin h1)
      have e : (listed.setIfInBounds i true).take n = (listed.take n).setIfInBounds i true := by
        apply Array.ext
        · simp
        · intro k h1 h2
          simp only [Array.take_eq_extract] at h1 h2 ⊢
          have h3 : k < (listed.extract 0 n).size := by simpa using h2
          have h4 : k < listed.size := by simp at h3; omega
          rw [Array.getElem_extract, Array.getElem_setIfInBounds (by simpa using h4), Array.getElem_setIfInBounds h3, Array.getElem_extract]
          simp
      rw [e]; exact hk

/-- THE LAW. -/
theorem wp_quiet_tail {id : Nat} {Q : Exit → Act → World → Prop} {a : Act} {w : World} {l : List Oper} (n : Nat) (hm : P.follows .mixedOrders = true)
    (hB : (Region.lexB .any (l.take n).toArray && backB .any l && guardB n l && decide (n < l.length) && Region.sinkB .any l.toArray n && Region.chainB .any l.toArray n &&
      Region.seqB .any l.toArray (l.length - n) n (Array.replicate n true ++ Array.replicate (l.length - n) false)) = true)
    (hC : C { w with drawn := w.drawn + 1 })
    (h : wpQuiet P (l.take n).toArray C (fun a' => ∀ w', C w' → wpList P l.toArray Q (l.drop n) a' w') (l.take n) a) : (Code.region id l.toArray true).wp P Q a w := by
  simp only [Bool.and_eq_true, decide_eq_true_eq] at hB
  obtain ⟨⟨⟨⟨⟨⟨hlex, hback⟩, hg⟩, hn⟩, hs⟩, hc⟩, hq⟩ := hB
  simp only [Region.lexB, Bool.and_eq_true] at hlex
  have inv0 : HeadInv .any l.toArray n (Array.replicate l.toArray.size false) :=
    ⟨by simp, fun j oj _ hl => (by rw [getD_replicate_false] at hl; cases hl), fun t _ ht => getD_in (by simpa using ht) (getD_replicate_false _ _)⟩
  have H := wpAnyQ_lex (P := P) (C := C) (md := .any) (Q := fun a' => ∀ w', C w' → wpList P l.toArray Q (l.drop n) a' w') hlex.1 (l.take n) 0 (Array.replicate (l.take n).toArray.size false) a (by simp) (by simpa using hlex.2) h
  have e : (Array.replicate l.toArray.size false).take n = Array.replicate (l.take n).toArray.size false := by
    apply Array.ext
    · simp
    · intro k h1 h2; simp
  refine wp_region_any hm ?_
  have := heads_first (P := P) (C := C) (md := .any) (Q' := Q) hback hg hn hs hc hq (l.take n).length (Array.replicate l.toArray.size false) a { w with drawn := w.drawn + 1 } hC inv0 (by rw [e]; exact H)
  rw [show (l.take n).length + (l.length - n) = l.toArray.size by simp; omega] at this
  exact this

/-- The same, at the class 'w behind some draws'. -/
theorem wp_draw_tail {id : Nat} {Q : Exit → Act → World → Prop} {a : Act} {w : World} {l : List Oper} (n : Nat) (hm : P.follows .mixedOrders = true)
    (hB : (Region.lexB .any (l.take n).toArray && backB .any l && guardB n l && decide (n < l.length) && Region.sinkB .any l.toArray n && Region.chainB .any l.toArray n &&
      Region.seqB .any l.toArray (l.length - n) n (Array.replicate n true ++ Array.replicate (l.length - n) false)) = true)
    (h : wpQuiet P (l.take n).toArray (fun w' => ∃ n, w' = w.drewN n) (fun a' => ∀ w', (∃ n, w' = w.drewN n) → wpList P l.toArray Q (l.drop n) a' w') (l.take n) a) : (Code.region id l.toArray true).wp P Q a w :=
  wp_quiet_tail n hm hB ⟨1, rfl⟩ h
/-! ### One operation in the middle that may do anything; behind it quiet ones again -/

/-- Each operation behind n waits for n or for one between. -/
def behindB (md : Region.Mode) (l : List Oper) (n : Nat) : Bool := (List.range l.length).all fun t => decide (t ≤ n) || (List.range t).any fun j => decide (n ≤ j) && Region.waitsFor md l.toArray t j

theorem getD_take' {listed : Array Bool} {n i : Nat} (hi : i < n) (d : Bool) : (listed.take n).getD i d = listed.getD i d := getD_take hi d

theorem mid_waits {l : List Oper} {n : Nat} (hback : backB md l = true) (hn : n < l.length) (hb : behindB md l n = true) (hs : Region.sinkB md (l.take (n + 1)).toArray n = true) (hc : Region.chainB md (l.take (n + 1)).toArray n = true)
    {listed : Array Bool} (inv : HeadInv md l.toArray n listed) {i : Nat} (hi : i < n) (hu : listed.getD i true = false) {t : Nat} (ht : n ≤ t) : t ∉ Region.ready md l.toArray listed := by
  intro hr
  have htl : t < l.length := by
    obtain ⟨_, o, ho, _⟩ := mem_ready.1 hr
    simpa using (Array.getElem?_eq_some_iff.1 ho).1
  have hz : listed.size = l.length := by simpa using inv.size
  by_cases htn : t = n
  · subst htn
    have h1 : t ∈ Region.ready md (l.take (t + 1)).toArray (listed.take (t + 1)) := (ready_take hback (by omega)).2 hr
    have inv' : HeadInv md (l.take (t + 1)).toArray t (listed.take (t + 1)) := by
      refine ⟨by simp; omega, fun j oj hj hl e he hb => ?_, fun k hk hk' => ?_⟩
      · have hj' : j < t + 1 := by have := (Array.getElem?_eq_some_iff.1 hj).1; simp at this; omega
        have hj2 : l[j]? = some oj := by
          have : (l.take (t + 1))[j]? = some oj := by simpa using hj
          rwa [List.getElem?_take, if_pos hj'] at this
        have hlt := backB_spec hback hj2 e he hb
        rw [getD_take hj'] at hl
        rw [getD_take (by omega)]
        exact inv.closed j oj (by simpa using hj2) hl e he hb
      · have : k < t + 1 := by simp at hk'; omega
        rw [getD_take this]; exact inv.tail k hk (by simp; omega)
    exact tail_waits hs hc (by simp; omega) inv' _ i rfl hi (by rw [getD_take (by omega)]; exact hu) t (Nat.le_refl _) h1
  · have h1 := List.all_eq_true.1 hb t (List.mem_range.2 htl)
    simp only [Bool.or_eq_true, decide_eq_true_eq] at h1
    rcases h1 with h1 | h1
    · omega
    · obtain ⟨j, hj, hj2⟩ := List.any_eq_true.1 h1
      simp only [Bool.and_eq_true, decide_eq_true_eq] at hj2
      obtain ⟨o', ho', e, he, hbd, hon⟩ := Region.waitsFor_spec hj2.2
      obtain ⟨_, ot, hot, hall⟩ := mem_ready.1 hr
      have : o' = ot := Option.some.inj (ho'.symm.trans hot)
      subst this
      have h2 := hall e he hbd
      have hjt := List.mem_range.1 hj
      rw [hon, getD_both (inv.tail j hj2.1 (by simp; omega))] at h2
      cases h2

theorem heads_mid {Q' : Exit → Act → World → Prop} {l : List Oper} {n : Nat} (hback : backB md l = true) (hg : guardB n l = true) (hn : n < l.length)
    (hw : ∀ (listed : Array Bool), HeadInv md l.toArray n listed → ∀ i, i < n → listed.getD i true = false → ∀ t, n ≤ t → t ∉ Region.ready md l.toArray listed)
    {T : Act → Prop} (hT : ∀ (x : Nat) (a : Act) (w : World), C w → T a → wpAny P md l.toArray Q' (x + (l.length - n)) (Array.replicate n true ++ Array.replicate (l.length - n) false) a w) :
    ∀ (f : Nat) (listed : Array Bool) (a : Act) (w : World), C w → HeadInv md l.toArray n listed →
      wpAnyQ P md (l.take n).toArray C T f (listed.take n) a → wpAny P md l.toArray Q' (f + (l.length - n)) listed a w := by
  have full : ∀ (listed : Array Bool), listed.size = l.length → (∀ i, i < n → listed.getD i true = true) → HeadInv md l.toArray n listed → listed = Array.replicate n true ++ Array.replicate (l.length - n) false := by
    intro listed hz hall inv
    apply Array.ext
    · simp; omega
    · intro i h1 h2
      by_cases hi : i < n
      · have := hall i hi; simpa [Array.getElem_append, hi, h1] using this
      · have := inv.tail i (by omega) (by simp; omega); simpa [Array.getElem_append, hi, h1] using this
  intro f
  induction f with
  | zero =>
    intro listed a w hC inv h
    have hz : listed.size = l.length := by simpa using inv.size
    have hall : ∀ i, i < n → listed.getD i true = true := by
      intro i hi
      cases hu : listed.getD i true with
      | true => rfl
      | false =>
        obtain ⟨j, hj, hr⟩ := ready_least hback hz hu
        have := (ready_take hback (by omega : j < n)).2 hr
        rw [h.1] at this; cases this
    rw [full listed hz hall inv]
    exact hT 0 a w hC h.2
  | succ f ih =>
    intro listed a w hC inv h
    have hz : listed.size = l.length := by simpa using inv.size
    by_cases hall : ∀ i, i < n → listed.getD i true = true
    · have hr0 : Region.ready md (l.take n).toArray (listed.take n) = [] := by
        rw [List.eq_nil_iff_forall_not_mem]
        intro j hj
        have hjn : j < n := by
          obtain ⟨_, o, ho, _⟩ := mem_ready.1 hj
          have := (Array.getElem?_eq_some_iff.1 ho).1
          simp at this; omega
        have h1 := (mem_ready.1 hj).1
        rw [getD_take hjn, hall j hjn] at h1; cases h1
      rw [full listed hz hall inv]
      exact hT (f + 1) a w hC (h.1 hr0)
    · obtain ⟨i0, hi0⟩ := Classical.not_forall.1 hall
      obtain ⟨hi0n, hu⟩ := Classical.not_imp.1 hi0
      have hu : listed.getD i0 true = false := by simpa using hu
      obtain ⟨j, hj, hr⟩ := ready_least hback hz hu
      rw [show f + 1 + (l.length - n) = (f + (l.length - n)) + 1 by omega]
      refine ⟨fun h0 => (by rw [h0] at hr; cases hr), fun i hi => ?_⟩
      have hin : i < n := by
        rcases Nat.lt_or_ge i n with h' | h'
        · exact h'
        · exact absurd hi (hw listed inv i0 hi0n hu i h')
      have h1 := h.2 i ((ready_take hback hin).2 hi)
      refine wpOp_of_qOp hC (fun a' w' hw' hk => ih (listed.setIfInBounds i true) a' w' hw' (inv.set hi hin) ?_) (qOp_take hg hin h1)
      have e : (listed.setIfInBounds i true).take n = (listed.take n).setIfInBounds i true := by
        apply Array.ext
        · simp
        · intro k h1 h2
          simp only [Array.take_eq_extract] at h1 h2 ⊢
          have h3 : k < (listed.extract 0 n).size := by simpa using h2
          have h4 : k < listed.size := by simp at h3; omega
          rw [Array.getElem_extract, Array.getElem_setIfInBounds (by simpa using h4), Array.getElem_setIfInBounds h3, Array.getElem_extract]
          simp
      rw [e]; exact hk

theorem wpAny_more {Q' : Exit → Act → World → Prop} {ops : Array Oper} (x : Nat) : ∀ (f : Nat) (listed : Array Bool) (a : Act) (w : World), wpAny P md ops Q' f listed a w → wpAny P md ops Q' (x + f) listed a w
  | 0, listed, a, w, h => by
    cases x with
    | zero => exact h
    | succ x => exact ⟨fun _ => h.2, fun i hi => by rw [h.1] at hi; cases hi⟩
  | f + 1, listed, a, w, h => by
    rw [← Nat.add_assoc]
    exact ⟨h.1, fun i hi => wpOp_mono (fun a' w' h' => wpAny_more x f _ a' w' h') (h.2 i hi)⟩

/-- Behind the draw: n quiet operations, one that may do anything, quiet ones. -/
theorem wp_draw_mid {id : Nat} {Q : Exit → Act → World → Prop} {a : Act} {w : World} {l : List Oper} (n : Nat) (hm : P.follows .mixedOrders = true)
    (hB : (Region.lexB .any (l.take n).toArray && backB .any l && guardB n l && decide (n < l.length) && behindB .any l n && Region.sinkB .any (l.take (n + 1)).toArray n && Region.chainB .any (l.take (n + 1)).toArray n &&
      decide (Region.ready .any l.toArray (Array.replicate n true ++ Array.replicate (l.length - n) false) = [n]) && Region.noSelect l.toArray &&
      Region.lexFrom .any l.toArray (l.length - n - 1) (n + 1) (Array.replicate (n + 1) true ++ Array.replicate (l.length - n - 1) false)) = true)
    (h : wpQuiet P (l.take n).toArray (fun w' => ∃ m, w' = w.drewN m) (fun a' => ∀ w', (∃ m, w' = w.drewN m) →
      wpList P l.toArray (fun e a2 w2 => match e with
        | .normal => wpQuiet P l.toArray (fun w3 => ∃ m, w3 = w2.drewN m) (fun a3 => ∀ w3, (∃ m, w3 = w2.drewN m) → Q .normal a3 w3) (l.drop (n + 1)) a2
        | e => Q e a2 w2) ((l.drop n).take 1) a' w') (l.take n) a) : (Code.region id l.toArray true).wp P Q a w := by
  simp only [Bool.and_eq_true, decide_eq_true_eq] at hB
  obtain ⟨⟨⟨⟨⟨⟨⟨⟨⟨hlex, hback⟩, hg⟩, hn⟩, hb⟩, hs⟩, hc⟩, hr1⟩, hsel⟩, hlf⟩ := hB
  simp only [Region.lexB, Bool.and_eq_true] at hlex
  have inv0 : HeadInv .any l.toArray n (Array.replicate l.toArray.size false) :=
    ⟨by simp, fun j oj _ hl => (by rw [getD_replicate_false] at hl; cases hl), fun t _ ht => getD_in (by simpa using ht) (getD_replicate_false _ _)⟩
  have H := wpAnyQ_lex (P := P) (C := fun w' => ∃ m, w' = w.drewN m) (md := .any) hlex.1 (l.take n) 0 (Array.replicate (l.take n).toArray.size false) a (by simp) (by simpa using hlex.2) h
  have e : (Array.replicate l.toArray.size false).take n = Array.replicate (l.take n).toArray.size false := by
    apply Array.ext
    · simp
    · intro k h1 h2; simp
  refine wp_region_any hm ?_
  have := heads_mid (P := P) (C := fun w' => ∃ m, w' = w.drewN m) (md := .any) (Q' := Q) hback hg hn (fun listed inv i hi hu t ht => mid_waits hback hn hb hs hc inv hi hu ht)
    (T := fun a' => ∀ w', (∃ m, w' = w.drewN m) →
      wpList P l.toArray (fun e a2 w2 => match e with
        | .normal => wpQuiet P l.toArray (fun w3 => ∃ m, w3 = w2.drewN m) (fun a3 => ∀ w3, (∃ m, w3 = w2.drewN m) → Q .normal a3 w3) (l.drop (n + 1)) a2
        | e => Q e a2 w2) ((l.drop n).take 1) a' w')
    (fun x a' w' hC hT => by
      refine wpAny_more x _ _ _ _ ?_
      rw [show l.length - n = (l.length - n - 1) + 1 by omega]
      refine ⟨fun h0 => ?_, fun i hi => ?_⟩
      · rw [show l.length - n - 1 + 1 = l.length - n by omega, hr1] at h0; cases h0
      · rw [show l.length - n - 1 + 1 = l.length - n by omega, hr1] at hi
        have hin : i = n := by simpa using hi
        subst hin
        have h1 := hT w' hC
        have hd : (l.drop i).take 1 = [l[i]] := by rw [List.drop_eq_getElem_cons hn]; rfl
        rw [hd] at h1
        have hset : (Array.replicate i true ++ Array.replicate (l.length - i - 1 + 1) false).setIfInBounds i true = Array.replicate (i + 1) true ++ Array.replicate (l.length - i - 1) false := by
          apply Array.ext
          · simp; omega
          · intro k h1 h2
            have h3 : k < l.length := by simp at h1; omega
            by_cases hk : k < i
            · simp [hk, show k < i + 1 by omega]
            · by_cases hk2 : k = i
              · subst hk2; simp [Array.getElem_append]
              · have h0 : 0 ≠ k - i := by omega
                simp [Array.getElem_append, hk, show ¬ k < i + 1 by omega]
                rw [Array.getElem_setIfInBounds (by simp; omega), if_neg h0]
                simp
        rw [hset]
        have fin : ∀ a2 w2, wpQuiet P l.toArray (fun w3 => ∃ m, w3 = w2.drewN m) (fun a3 => ∀ w3, (∃ m, w3 = w2.drewN m) → Q .normal a3 w3) (l.drop (i + 1)) a2 →
            wpAny P .any l.toArray Q (l.length - i - 1) (Array.replicate (i + 1) true ++ Array.replicate (l.length - i - 1) false) a2 w2 := by
          intro a2 w2 h2
          have hl : (l.drop (i + 1)).length = l.length - i - 1 := by simp; omega
          have := wpAnyQ_lex (P := P) (C := fun w3 => ∃ m, w3 = w2.drewN m) (md := .any) hsel (l.drop (i + 1)) (i + 1) (Array.replicate (i + 1) true ++ Array.replicate (l.length - i - 1) false) a2
            (fun j => by simp [List.getElem?_drop]) (by rw [hl]; exact hlf) h2
          rw [hl] at this
          exact wpAny_of_quiet (fun a3 w3 hw3 hq => hq w3 hw3) _ _ _ _ ⟨0, rfl⟩ this
        unfold wpOp
        have hoi : l.toArray[i]? = some l[i] := by simp [hn]
        simp only [hoi]
        unfold wpList at h1
        split at h1
        · rename_i hw
          rw [if_pos hw]
          rcases h1 with h1 | ⟨ha, a0, w0, hq⟩
          · refine .inl ?_
            unfold Oper.wp at h1 ⊢
            generalize (execOp a'.eval l[i]).run P w' = r at h1 ⊢
            cases r with
            | ok x w2 =>
              cases x <;> simp only [Oper.upon] at h1 ⊢ <;> first
                | exact h1
                | exact fin _ _ h1
                | exact h1.mono fun e w3 he => by cases e <;> first | exact fin _ _ he | exact he
                | exact fun c cs => let ⟨v, w3, hv, hs⟩ := h1 c cs; ⟨v, w3, fin _ _ hv, hs⟩
            | halt x w2 => cases x <;> simp only [Oper.upon] at h1 ⊢ <;> exact h1
          · exact .inr ⟨ha, a0, w0, hq⟩
        · rename_i hw
          rw [if_neg hw]
          exact fin _ _ h1) (l.take n).length (Array.replicate l.toArray.size false) a { w with drawn := w.drawn + 1 } ⟨1, rfl⟩ inv0 (by rw [e]; exact H)
  rw [show (l.take n).length + (l.length - n) = l.toArray.size by simp; omega] at this
  exact this
end

end Go.Proofs.YtogmealngeejmaaGreatDoor
