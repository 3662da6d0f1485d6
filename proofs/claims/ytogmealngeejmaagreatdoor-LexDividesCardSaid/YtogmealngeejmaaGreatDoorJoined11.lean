import Derived.Test.YtogmealngeejmaaGreatDoorJoined10
import Derived.RangeFuncBox
import Derived.RangeFuncLeaves
import Derived.OwnWalkIn
/- The lexer: 'divided': the tokens of a text, or what is wrong. -/
namespace Go.Proofs.YtogmealngeejmaaGreatDoor
open Go Go.RowKit

attribute [local go_sem] Oper.semAt_some

def cellsPc (x : Lx.Pc) : List Value := [.int .i64 x.kind, .string ⟨x.text.toArray⟩, .int .i64 x.line, .int .i64 x.col, .int .i64 x.frm, .int .i64 x.to]

def DvPost (w : World) (r : List Lx.Pc × Option (Int × Nat)) (e : Ending) (w' : World) : Prop :=
  Kp [] w w' ∧ match r.2 with
    | none => ∃ v, e = .returned (.tuple #[v, .int .i64 0, .int .i64 0]) ∧ w'.ownsRow w.heap.size 69 6 v r.1.length (r.1.flatMap cellsPc)
    | some (er, a) => e = .returned (.tuple #[.slice none 0 0, .int .i64 er, .int .i64 a])

theorem pieces_c (t : ByteArray) (w : World) : Calls Tryz.prog 70 #[.string t] w fun e w' => e = .returned (.func (.func 81) #[] #[.pointer (some ⟨w.heap.size, 0, none⟩)]) ∧ w' = w.alloc (.cells #[.string t] 9) := by
  have hmf : ∀ (fn : Fn) (first cap : Array Value) (w : World), (Instr.makeFunc fn first cap).run Tryz.prog w = .ok (.func fn first cap) w := fun _ _ _ _ => rfl
  go_enter Tryz.func70, Tryz.ntmps70
  go_wp2
  go_ret
  exact ⟨rfl, rfl⟩

/-- What holds ahead of each round. -/
structure DvJ (t : ByteArray) (w : World) (rc : Loop) (pre : List Lx.Pc) (W : World) : Prop where
  box : ∃ v, W.heap[w.heap.size]? = some (.cells #[v] 65 (0, 0)) ∧ W.ownsRow (w.heap.size + 9) 69 6 v pre.length (pre.flatMap cellsPc)
  err : W.heap[w.heap.size + 1]? = some (.cells #[.int .i64 0] 26 (0, 0))
  at' : W.heap[w.heap.size + 2]? = some (.cells #[.int .i64 0] 3 (0, 0))
  text : W.heap[w.heap.size + 3]? = some (.cells #[.string t] 9 (0, 0))
  dfr : W.heap[w.heap.size + 4]? = some (.deferred (some []))
  loop : W.heap[w.heap.size + 5]? = some (.loop rc)
  kp : Kp [] w W

theorem lt_of_heap {w : World} {k : Nat} {o : Obj} (h : w.heap[k]? = some o) : k < w.heap.size := (Array.getElem?_eq_some_iff.1 h).1

theorem ownsRow_block {w w' : World} {base : Nat} {e : TypeId} {size : Nat} {v : Value} {k : Nat} {xs : List Value} (h : w.ownsRow base e size v k xs) (hb : ∀ g, base ≤ g → g < w.heap.size → w'.heap[g]? = w.heap[g]?) : w'.ownsRow base e size v k xs := by
  refine ⟨h.1, ?_⟩
  rcases h.2 with h | ⟨g, cap, cur, h1, h2, h3, h4⟩
  · exact .inl h
  · exact .inr ⟨g, cap, cur, h1, h2, (hb g h2 (Array.getElem?_eq_some_iff.1 h3).1).trans h3, h4⟩

theorem ownsRow_base {w : World} {a b : Nat} {e : TypeId} {size : Nat} {v : Value} {k : Nat} {xs : List Value} (h : w.ownsRow b e size v k xs) (hab : a ≤ b) : w.ownsRow a e size v k xs := by
  refine ⟨h.1, ?_⟩
  rcases h.2 with h | ⟨g, cap, cur, h1, h2, h3⟩
  · exact .inl h
  · exact .inr ⟨g, cap, cur, h1, Nat.le_trans hab h2, h3⟩

theorem DvJ.keep {t : ByteArray} {w : World} {rc : Loop} {pre : List Lx.Pc} {W W' : World} (h : DvJ t w rc pre W) (k : Kp [w.heap.size + 6] W W') : DvJ t w rc pre W' := by
  obtain ⟨⟨v, hv, hr⟩, h1, h2, h3, h4, h5, hk⟩ := h
  exact ⟨⟨v, k.heap hv (by simp), ownsRow_block hr fun g hg hl => k.block g hl (by simp; omega)⟩, k.heap h1 (by simp), k.heap h2 (by simp), k.heap h3 (by simp), k.heap h4 (by simp), k.heap h5 (by simp),
    (hk.nil.trans' k (fun x hx => by simp at hx; right; omega) : Kp [] w W')⟩

/-- The statement: the record is laid; the call; what the function comes to. -/
theorem wp_rangeFunc_any {P : Program} {g : Operand} {ps : Array Tmp} {assign body : Code} {Q : Exit → Act → World → Prop} {a : Act} {w : World} (gf : FuncId) (lb : Array Value)
    (hg : a.eval g = .func (.func gf) #[] lb) (eg : ∀ args w, (callFunc gf args).run P w = .ok (.enter gf args) w)
    (h : ∀ rc : Loop, rc.state = .ready → rc.pending = none → rc.tmps = a.tmps → rc.params = ps → rc.assign = assign → rc.body = body →
      CallsIn Fence.wide 0 P gf (#[.func (.yield (w.heap.size + 1)) #[] #[]] ++ lb) ((w.alloc (.deferred (some []))).alloc (.loop rc))
        (rangePost Fence.wide 0 P (w.heap.size + 1) Q { a with defers := { target := .collected w.heap.size, args := #[] } :: a.defers })) : (Code.rangeFunc g ps assign body).wp P Q a w := by
  obtain ⟨WW, hWW⟩ : ∃ WW : FuncId → World, WW = fun fn => (w.alloc (.deferred (some []))).alloc (.loop { state := .ready, pending := none, fn, tmps := a.tmps, params := ps, assign, body, defers := w.heap.size }) := ⟨_, rfl⟩
  have he : ∀ fn, (Instr.enterLoop fn a.tmps ps assign body none).run P w = .ok (w.heap.size + 1, [{ target := .collected w.heap.size, args := #[] }]) (WW fn) := fun fn => by rw [hWW]; exact run_enterLoop_outer _ _ _ _ _
  have H' : ∀ fn, CallsIn Fence.wide 0 P gf (#[.func (.yield (w.heap.size + 1)) #[] #[]] ++ lb) (WW fn) (rangePost Fence.wide 0 P (w.heap.size + 1) Q { a with defers := { target := .collected w.heap.size, args := #[] } :: a.defers }) := fun fn => by rw [hWW]; exact h _ rfl rfl rfl rfl rfl rfl
  clear hWW h
  refine (wpIn_wide (n := 0)).1 (wpIn_rangeFunc ?_)
  intro fn _
  refine ⟨w.heap.size + 1, [{ target := .collected w.heap.size, args := #[] }], WW fn, { target := .fn (.func gf) lb, args := #[.func (.yield (w.heap.size + 1)) #[] #[]] }, WW fn, gf,
    #[.func (.yield (w.heap.size + 1)) #[] #[]] ++ lb, WW fn, ?_, ?_, ?_, ?_, ?_, ?_⟩
  · exact he fn
  · simp only [resolve, hg]
    simp [go_sem]
  · intro f' _; exact trivial
  · simp [invoke, go_sem, eg]
  · intro h0; simp [Fence.wide] at h0
  · exact H' fn

/-- A round that falls off its body's end. -/
theorem yieldAt_round {P : Program} {l : Nat} {rc : Loop} {args : Array Value} {W : World} {R : Ending → World → Prop} (hl : W.heap[l]? = some (.loop rc)) (hst : rc.state = .ready) (hpe : rc.pending = none) (hs : args.size = rc.params.size)
    (h : ∀ rb : Loop, rc.assign.wpIn (Fence.wide.inRound l) 0 P (Exit.then (fun a₁ w₁ => w₁.heap[l]? = some (.loop rc) ∧ rc.body.wpIn (Fence.wide.inRound l) 0 P
        (fun e _ W3 => e = .normal ∧ W3.heap[l]? = some (.loop rb) ∧ R (.returned (.bool true)) (W3.putObj l (.loop rc))) a₁ (w₁.putObj l (.loop rb))) (fun _ _ _ => False))
      { tmps := (rc.params.zip args).foldl (fun tmps (t, a) => tmps.setIfInBounds t a) rc.tmps, defers := [] } W) : YieldAt Fence.wide 0 P l args W R := by
  refine ⟨rc.fn, _, rc.assign, rc.body, run_yield hl hs, roundIn_of_wpIn trivial (wpIn_mono (h { rc with state := .busy }) ?_)⟩
  rintro e a1 w1 hp
  cases e with
  | normal =>
    obtain ⟨h1, h2⟩ := hp
    refine ⟨_, run_beginRound h1 hst, wpIn_mono h2 ?_⟩
    rintro e a2 w2 ⟨rfl, h3, h4⟩
    refine ⟨.bool true, _, ?_, h4⟩
    have := run_endRound (P := P) none h3
    rw [this]
    congr 3
    cases rc
    simp_all
  | _ => exact hp.elim

theorem info_piece : (Tryz.prog.info? 69).map (fun i => (i.zero, i.size, i.bytes)) = some (some (.agg #[.int .i64 0, .string .empty, .int .i64 0, .int .i64 0, .int .i64 0, .int .i64 0]), 6, 56) := by kernel_rfl

set_option maxRecDepth 100000 in
set_option maxHeartbeats 2000000 in
theorem divided_c (t : ByteArray) (w : World) (hsz : t.size ≤ 1100000) : Calls Tryz.prog 43 #[.string t] w (DvPost w (Lx.divide t.data.toList)) := by
  have hmf : ∀ (fn : Fn) (first cap : Array Value) (w : World), (Instr.makeFunc fn first cap).run Tryz.prog w = .ok (.func fn first cap) w := fun _ _ _ _ => rfl
  refine callsIn_wide.1 (callsIn_of_wp_marks (F := Fence.wide) (n := 0) Tryz.func43 rfl trivial (wpIn_wide.2 ?_))
  simp only [Tryz.ntmps43, List.size_toArray, List.length_cons, List.length_nil, Nat.reduceAdd, Nat.reduceSub, Array.replicate_succ, Array.replicate_zero, List.push_toArray, List.append_toArray, List.nil_append, List.cons_append]
  obtain ⟨P0, hP0⟩ : ∃ P0, P0 = bodyPostM Fence.wide 0 Tryz.prog Tryz.f43 (DvPost w (Lx.divide t.data.toList)) := ⟨_, rfl⟩
  rw [← hP0]
  have HP0 := Lib.hid hP0; clear hP0
  go_wp2_with fail
  refine (pieces_c _ _).mono ?_
  rintro e w1 ⟨rfl, rfl⟩
  go_wp2_with fail
  obtain ⟨W1, hW1⟩ : ∃ W1, W1 = (((w.alloc (.cells #[.slice none 0 0] 65)).alloc (.cells #[.int .i64 0] 26)).alloc (.cells #[.int .i64 0] 3)).alloc (.cells #[.string t] 9) := ⟨_, rfl⟩
  rw [← hW1, show w.heap.size + 1 + 1 + 1 = w.heap.size + 3 from rfl, show w.heap.size + 1 + 1 = w.heap.size + 2 from rfl]
  have hs1 : W1.heap.size = w.heap.size + 4 := by rw [hW1]; simp
  have hk1 : Kp [] w W1 := by rw [hW1]; exact ((((Kp.refl [] w).alloc _).alloc _).alloc _).alloc _
  have c0 : W1.heap[w.heap.size]? = some (.cells #[.slice none 0 0] 65 (0, 0)) := by rw [hW1]; exact block_alloc (block_alloc (block_alloc (heap_alloc_new w _) _) _) _
  have c1 : W1.heap[w.heap.size + 1]? = some (.cells #[.int .i64 0] 26 (0, 0)) := by
    have := heap_alloc_new (w.alloc (.cells #[.slice none 0 0] 65)) (.cells #[.int .i64 0] 26); rw [World.size_alloc] at this
    rw [hW1]; exact block_alloc (block_alloc this _) _
  have c2 : W1.heap[w.heap.size + 2]? = some (.cells #[.int .i64 0] 3 (0, 0)) := by
    have := heap_alloc_new ((w.alloc (.cells #[.slice none 0 0] 65)).alloc (.cells #[.int .i64 0] 26)) (.cells #[.int .i64 0] 3); rw [World.size_alloc, World.size_alloc] at this
    rw [hW1]; exact block_alloc this _
  have c3 : W1.heap[w.heap.size + 3]? = some (.cells #[.string t] 9 (0, 0)) := by
    have := heap_alloc_new (((w.alloc (.cells #[.slice none 0 0] 65)).alloc (.cells #[.int .i64 0] 26)).alloc (.cells #[.int .i64 0] 3)) (.cells #[.string t] 9); rw [World.size_alloc, World.size_alloc, World.size_alloc] at this
    rw [hW1]; exact this
  clear hW1
  refine wp_rangeFunc_any 81 #[.pointer (some ⟨w.heap.size + 3, 0, none⟩)] rfl (enters_of Tryz.func81 (by kernel_rfl) rfl) ?_
  intro rc hst hpe htm hps has hbo
  rw [hs1]
  obtain ⟨W2, hW2⟩ : ∃ W2, W2 = (W1.alloc (.deferred (some []))).alloc (.loop rc) := ⟨_, rfl⟩
  rw [← hW2]
  have hs2 : W2.heap.size = w.heap.size + 6 := by rw [hW2]; simp [hs1]
  have hk2 : Kp [] W1 W2 := by rw [hW2]; exact ((Kp.refl [] W1).alloc _).alloc _
  have hJ2 : DvJ t w rc [] W2 := by
    refine ⟨⟨_, hk2.heap c0 (by simp), World.ownsRow_nil _ _ _ _⟩, hk2.heap c1 (by simp), hk2.heap c2 (by simp), hk2.heap c3 (by simp), ?_, ?_, hk1.trans hk2⟩
    · have := heap_alloc_new W1 (.deferred (some [])); rw [hs1] at this
      rw [hW2]; exact block_alloc this _
    · have := heap_alloc_new (W1.alloc (.deferred (some []))) (.loop rc); rw [World.size_alloc, hs1] at this
      rw [hW2]; exact this
  have ht2 := hJ2.text
  clear hW2 c0 c1 c2 c3
  refine callsIn_wide.2 ((pieces1_c t (w.heap.size + 3) W2 ht2 hsz (w.heap.size + 5) (DvJ t w rc) ?_ ?_ ?_).mono ?_)
  · intro W hk; exact hJ2.keep hk.nil
  · intro pre W W' hJ hs hk; rw [hs2] at hk; exact hJ.keep hk
  · intro pre x W hJ hs hlen
    refine yieldAt_round hJ.loop hst hpe (by rw [hps]; rfl) ?_
    intro rb
    rw [htm, hps, has, hbo]
    clear htm hps has hbo hst hpe hJ2 ht2 hk2 hs1 hk1
    have hsW : w.heap.size + 6 + 3 ≤ W.heap.size := by rw [← hs2]; exact hs
    have HS2 := Lib.hid hs2; clear hs2 hs
    have e0 : (fun (e : Ending) (W' : World) => e = .returned (.bool true) ∧ DvJ t w rc (pre ++ [x]) W' ∧ RoundKeeps (w.heap.size + 3) W2.heap.size W W') =
        (fun e W' => e = .returned (.bool true) ∧ DvJ t w rc (pre ++ [x]) W' ∧ RoundKeeps (w.heap.size + 3) (w.heap.size + 6) W W') := by rw [HS2.out]
    obtain ⟨b, hb⟩ : ∃ b, b = w.heap.size := ⟨_, rfl⟩
    have HB := Lib.hid hb
    rw [← hb] at hsW ⊢
    clear hb
    unfold encPc
    clear e0
    gi_wp2_with fail
    obtain ⟨V1, hV1⟩ : ∃ V1, V1 = W.alloc (.cells #[.int .i64 x.kind, .string ⟨x.text.toArray⟩, .int .i64 x.line, .int .i64 x.col, .int .i64 x.frm, .int .i64 x.to] 69) := ⟨_, rfl⟩
    rw [← hV1]
    have kV1 : Kp [] W V1 := by rw [hV1]; exact (Kp.refl [] W).alloc _
    have pV1 : V1.heap[W.heap.size]? = some (.cells #[.int .i64 x.kind, .string ⟨x.text.toArray⟩, .int .i64 x.line, .int .i64 x.col, .int .i64 x.frm, .int .i64 x.to] 69 (0, 0)) := by rw [hV1]; exact heap_alloc_new W _
    have sV1 : V1.heap.size = W.heap.size + 1 := by rw [hV1]; simp
    clear hV1
    have jl := hJ.loop; rw [← HB.out] at jl
    refine ⟨kV1.heap jl (by simp), ?_⟩
    obtain ⟨V2, hV2⟩ : ∃ V2, V2 = V1.putObj (b + 5) (.loop rb) := ⟨_, rfl⟩
    rw [← hV2]
    have kV2 : Kp [b + 5] V1 V2 := by rw [hV2]; exact (Kp.refl _ V1).grown (grownBy_putObj' V1 _ _) (by simp)
    have lV2 : V2.heap[b + 5]? = some (.loop rb) := by rw [hV2]; exact World.putObj_heap_same (by rw [sV1]; omega)
    have sV2 : V2.heap.size = W.heap.size + 1 := by rw [hV2, ← sV1]; simp [World.putObj]
    have pV2 := kV2.heap pV1 (by simp; omega)
    have kW : Kp [b + 5] W V2 := kV1.nil.trans kV2
    clear hV2 sV1 pV1 kV1 kV2
    have SV2 := Lib.hid sV2; clear sV2
    obtain ⟨v, hv, hrow⟩ := hJ.box
    rw [← HB.out] at hv hrow
    have hv2 := kW.heap hv (by simp)
    have hrow2 : V2.ownsRow (b + 9) 69 6 v pre.length (pre.flatMap cellsPc) := ownsRow_block hrow fun g hg hl => kW.block g hl (by simp; omega)
    clear hv hrow
    have fv : V2.cell? ⟨b, 0, none⟩ = some v := cell_of_block hv2 0
    have fz := free_of_block hv2 0
    have p0 : V2.cell? ⟨W.heap.size, 0, none⟩ = some (.int .i64 x.kind) := cell_of_block pV2 0
    have p1 : V2.cell? ⟨W.heap.size, 1, none⟩ = some (.string ⟨x.text.toArray⟩) := cell_of_block pV2 1
    have p2 : V2.cell? ⟨W.heap.size, 2, none⟩ = some (.int .i64 x.line) := cell_of_block pV2 2
    have p3 : V2.cell? ⟨W.heap.size, 3, none⟩ = some (.int .i64 x.col) := cell_of_block pV2 3
    have p4 : V2.cell? ⟨W.heap.size, 4, none⟩ = some (.int .i64 x.frm) := cell_of_block pV2 4
    have p5 : V2.cell? ⟨W.heap.size, 5, none⟩ = some (.int .i64 x.to) := cell_of_block pV2 5
    obtain ⟨i0, hi, hz0, hz1, hz2⟩ := info_parts info_piece
    have hnew : ∀ j u, (cellsPc x)[j]? = some u → (V2.alloc (.cells #[.int .i64 x.kind, .string ⟨x.text.toArray⟩, .int .i64 x.line, .int .i64 x.col, .int .i64 x.frm, .int .i64 x.to] 69)).cell? ((⟨V2.heap.size, 0, none⟩ : Addr).add j) = some u := by
      intro j u hj
      have := cell_of_block (heap_alloc_new V2 (.cells #[.int .i64 x.kind, .string ⟨x.text.toArray⟩, .int .i64 x.line, .int .i64 x.col, .int .i64 x.frm, .int .i64 x.to] 69)) j
      have ea : ((⟨V2.heap.size, 0, none⟩ : Addr).add j) = ⟨V2.heap.size, j, none⟩ := by
        unfold Addr.add; simp only [Nat.zero_add]; split
        · rename_i h; rw [h]
        · rfl
      rw [ea, this, ← hj]
      simp [cellsPc]
    have hg9 : ∀ g, v.ownBlock = some g → b + 9 ≤ g ∧ g < V2.heap.size := by
      intro g hg
      rcases hrow2.2 with ⟨rfl, _⟩ | ⟨g', cap, cur, rfl, hb', hgb, _⟩
      · simp [Value.ownBlock] at hg
      · simp [Value.ownBlock] at hg; subst hg; exact ⟨hb', lt_of_block hgb⟩
    have HG9 := Lib.hid hg9; clear hg9
    gi_wp2_with (gi_at_builtin; refine wpListIn_append_own _ rfl _ _ 65 rfl (b + 9) 69 i0 _ 6 56 Tryz.underlying65 hi hz0 hz1 hz2 rfl (by decide) _ _ _ rfl (hrow2.alloc _) ⟨V2.heap.size, 0, none⟩ 1 1 (cellsPc x) rfl rfl hnew (by simp [cellsPc, Value.oneCell']) (by simp [maxLen]; omega) (by omega) (by simp [SV2.out]; omega) ?_; intro v' w1 hown' hgrow _; obtain ⟨g', cap', rfl⟩ := ownsRow_succ hown'; have hkeep : Hid (∀ k, k < b + 9 → w1.heap[k]? = V2.heap[k]?) := Lib.hid (fun k hk => (hgrow.block k (by simp [SV2.out]; omega) (fun e => by have := (HG9.out k e.symm).1; omega)).trans (Below.heap_alloc V2 _ k (by rw [SV2.out]; omega))); have hb1 := (hkeep.out b (by omega)).trans hv2; have fb1 : w1.cell? ⟨b, 0, none⟩ = some v := cell_of_block hb1 0; have zb1 : w1.frozen? ⟨b, 0, none⟩ = false := free_of_block hb1 0)
    obtain ⟨W4, hW4⟩ : ∃ W4, W4 = w1.setCell ⟨b, 0, none⟩ (.slice (some ⟨g', 0, none⟩) (pre.length + 1) cap') := ⟨_, rfl⟩
    obtain ⟨W5, hW5⟩ : ∃ W5, W5 = W4.putObj (b + 5) (.loop rc) := ⟨_, rfl⟩
    rw [← hW4, ← hW5]
    have k4 : ∀ k, k ≠ b → W4.heap[k]? = w1.heap[k]? := fun k hk => by rw [hW4]; exact Below.heap_setCell _ _ _ k (fun e => hk (by rw [e]))
    have l4 : W4.heap[b + 5]? = some (.loop rb) := (k4 _ (by omega)).trans ((hkeep.out (b + 5) (by omega)).trans lV2)
    have k5 : ∀ k, k ≠ b + 5 → W5.heap[k]? = W4.heap[k]? := fun k hk => by rw [hW5]; exact World.putObj_heap_other hk
    have kf : ∀ k, k < b + 9 → k ≠ b → k ≠ b + 5 → W5.heap[k]? = W.heap[k]? := fun k h1 h2 h3 =>
      (k5 k h3).trans ((k4 k h2).trans ((hkeep.out k h1).trans (kW.block k (by omega) (by simpa using h3))))
    have b4 : W4.heap[b]? = some (.cells #[.slice (some ⟨g', 0, none⟩) (pre.length + 1) cap'] 65 (0, 0)) := by rw [hW4]; exact block_setCell hb1 0 _
    have K5 : Kp [] w W5 := by
      have a1 := HB.out
      have h0 : Kp [] w V2 := hJ.kp.nil.trans' kW (fun x hx => by simp at hx; right; omega)
      rw [hW5, hW4]
      exact (((h0.alloc _).grown hgrow (fun k hk => by have := (HG9.out k hk).1; right; omega)).setCell (p := ⟨b, 0, none⟩) (by right; simp; omega) _).grown (grownBy_putObj' _ _ _) (fun k hk => by cases hk; right; omega)
    have s5 : W.heap.size ≤ W5.heap.size := by
      have h1 := hgrow.size
      have h2 := SV2.out
      have h3 : W5.heap.size = w1.heap.size := by rw [hW5, hW4]; simp [World.putObj, World.setCell]
      simp only [World.size_alloc] at h1
      omega
    refine ⟨l4, ?_, ?_⟩
    · have a1 := HB.out
      refine ⟨⟨.slice (some ⟨g', 0, none⟩) (pre.length + 1) cap', ?_, ?_⟩, ?_, ?_, ?_, ?_, ?_, K5⟩
      · rw [← a1]; exact (k5 b (by omega)).trans b4
      · rw [← a1]
        have hr := ownsRow_block (w' := W5) hown' fun g hg hl => (k5 g (by omega)).trans (k4 g (by omega))
        simpa using hr
      · exact (kf _ (by omega) (by omega) (by omega)).trans hJ.err
      · exact (kf _ (by omega) (by omega) (by omega)).trans hJ.at'
      · exact (kf _ (by omega) (by omega) (by omega)).trans hJ.text
      · exact (kf _ (by omega) (by omega) (by omega)).trans hJ.dfr
      · rw [hW5, ← a1]; exact World.putObj_heap_same (lt_of_heap l4)
    · refine ⟨s5, ?_⟩
      rintro k (rfl | ⟨h1, h2⟩)
      · exact kf _ (by omega) (by omega) (by omega)
      · have a1 := HB.out
        have a2 := HS2.out
        exact kf _ (by omega) (by omega) (by omega)
  · rintro e W3 ⟨pre, hJ, hp⟩
    obtain ⟨r1, r2⟩ : (∃ r1, r1 = (Lx.divide t.data.toList).1) ∧ True := ⟨⟨_, rfl⟩, trivial⟩
    cases hr2 : (Lx.divide t.data.toList).2 with
    | none =>
      rw [hr2] at hp
      obtain ⟨rfl, rfl⟩ := hp
      have hend := run_endLoop (P := Tryz.prog) hJ.loop (by rw [hst]; simp)
      obtain ⟨⟨v, hv, hrow⟩, he, ha, htx, hd, hl, hkp⟩ := hJ
      obtain ⟨W4, hW4⟩ : ∃ W4, W4 = W3.putObj (w.heap.size + 5) (.loop { rc with state := .exhausted }) := ⟨_, rfl⟩
      rw [← hW4, hpe] at hend
      refine ⟨none, W4, hend, ?_⟩
      clear hend
      simp only
      have k4 : ∀ k, k ≠ w.heap.size + 5 → W4.heap[k]? = W3.heap[k]? := fun k hk => by rw [hW4]; exact World.putObj_heap_other hk
      have kp4 : Kp [] w W4 := by rw [hW4]; exact hkp.grown (grownBy_putObj' _ _ _) (fun k hk => by cases hk; right; omega)
      have hv4 := (k4 _ (by omega)).trans hv
      have he4 := (k4 _ (by omega)).trans he
      have ha4 := (k4 _ (by omega)).trans ha
      have hd4 := (k4 _ (by omega)).trans hd
      have hrow4 := ownsRow_block (w' := W4) hrow fun g hg _ => k4 g (by omega)
      clear hW4 k4 htm hps has hbo hst hpe
      have f0 : W4.cell? ⟨w.heap.size, 0, none⟩ = some v := cell_of_block hv4 0
      have f1 : W4.cell? ⟨w.heap.size + 1, 0, none⟩ = some (.int .i64 0) := cell_of_block he4 0
      have f2 : W4.cell? ⟨w.heap.size + 2, 0, none⟩ = some (.int .i64 0) := cell_of_block ha4 0
      have z0 := free_of_block hv4 0
      have z1 := free_of_block he4 0
      have z2 := free_of_block ha4 0
      obtain ⟨g, cap, hvs⟩ | hvs : (∃ g cap, v = .slice (some ⟨g, 0, none⟩) (Lx.divide t.data.toList).1.length cap) ∨ v = .slice none 0 0 := by
        rcases hrow4.2 with ⟨h, _⟩ | ⟨g, cap, _, h, _⟩
        · exact .inr h
        · exact .inl ⟨g, cap, h⟩
      all_goals
        go_wp2_with fail
        rw [← hvs]
        obtain ⟨W5, hW5⟩ : ∃ W5, W5 = ((W4.setCell ⟨w.heap.size, 0, none⟩ v).setCell ⟨w.heap.size + 1, 0, none⟩ (.int .i64 0)).setCell ⟨w.heap.size + 2, 0, none⟩ (.int .i64 0) := ⟨_, rfl⟩
        rw [← hW5]
        have k5 : ∀ k, k ≠ w.heap.size → k ≠ w.heap.size + 1 → k ≠ w.heap.size + 2 → W5.heap[k]? = W4.heap[k]? := fun k h0 h1 h2 => by
          rw [hW5]
          exact (Below.heap_setCell _ _ _ k (fun e => h2 (by rw [e]))).trans ((Below.heap_setCell _ _ _ k (fun e => h1 (by rw [e]))).trans (Below.heap_setCell _ _ _ k (fun e => h0 (by rw [e]))))
        have kp5 : Kp [] w W5 := by rw [hW5]; exact ((kp4.setCell (p := ⟨w.heap.size, 0, none⟩) (by right; simp) _).setCell (p := ⟨w.heap.size + 1, 0, none⟩) (by right; simp) _).setCell (p := ⟨w.heap.size + 2, 0, none⟩) (by right; simp) _
        have v5 : W5.heap[w.heap.size]? = some (.cells #[v] 65 (0, 0)) := by rw [hW5]; exact block_other (block_other (block_setCell hv4 0 _) (by simp) _) (by simp) _
        have e5 : W5.heap[w.heap.size + 1]? = some (.cells #[.int .i64 0] 26 (0, 0)) := by rw [hW5]; exact block_other (block_setCell (block_other he4 (by simp) _) 0 _) (by simp) _
        have a5 : W5.heap[w.heap.size + 2]? = some (.cells #[.int .i64 0] 3 (0, 0)) := by rw [hW5]; exact block_setCell (block_other (block_other ha4 (by simp) _) (by simp) _) 0 _
        have d5 := (k5 _ (by omega) (by omega) (by omega)).trans hd4
        have r5 := ownsRow_block (w' := W5) hrow4 fun g hg _ => k5 g (by omega) (by omega) (by omega)
        clear hW5 k5
        obtain ⟨W6, hW6⟩ : ∃ W6, W6 = W5.putObj (w.heap.size + 4) (.deferred none) := ⟨_, rfl⟩
        have k6 : ∀ k, k ≠ w.heap.size + 4 → W6.heap[k]? = W5.heap[k]? := fun k hk => by rw [hW6]; exact World.putObj_heap_other hk
        have kp6 : Kp [] w W6 := by rw [hW6]; exact kp5.grown (grownBy_putObj' _ _ _) (fun k hk => by cases hk; right; omega)
        have f0 : W6.cell? ⟨w.heap.size, 0, none⟩ = some v := cell_of_block ((k6 _ (by omega)).trans v5) 0
        have f1 : W6.cell? ⟨w.heap.size + 1, 0, none⟩ = some (.int .i64 0) := cell_of_block ((k6 _ (by omega)).trans e5) 0
        have f2 : W6.cell? ⟨w.heap.size + 2, 0, none⟩ = some (.int .i64 0) := cell_of_block ((k6 _ (by omega)).trans a5) 0
        have r6 := ownsRow_block (w' := W6) r5 fun g hg _ => k6 g (by omega)
        rw [HP0.out]
        refine ⟨by simp, .inl ⟨_, W6, rfl, hW6 ▸ run_takeDeferred d5, ?_⟩⟩
        refine ⟨by simp, .inr ⟨by intro h; simp [Fence.wide] at h, .func 69, _, 69, _, rfl, by simp [invoke, go_sem]; rfl, fun _ _ => trivial, ?_⟩⟩
        refine (caught_idle _ _ _ W6).mono ?_
        rintro e u' w' ⟨rfl, rfl, rfl⟩
        refine ⟨.tuple #[v, .int .i64 0, .int .i64 0], ?_, kp6, ?_⟩
        · simp [results, Tryz.results43, go_sem, f0, f1, f2]
        · rw [hr2]
          exact ⟨v, rfl, ownsRow_base (b := w.heap.size + 9) r6 (by omega)⟩
    | some p =>
      obtain ⟨er, a⟩ := p
      rw [hr2] at hp
      subst hp
      show Exit.inBlock 0 _ (Exit.panic _) _ _
      go_simp
      rw [HP0.out]
      refine ⟨by simp, .inl ⟨_, _, rfl, run_takeDeferred hJ.dfr, ?_⟩⟩
      obtain ⟨⟨v, hv, hrow⟩, he, ha, htx, hd, hl, hkp⟩ := hJ
      have kd : ∀ k, k ≠ w.heap.size + 4 → (W3.putObj (w.heap.size + 4) (.deferred none)).heap[k]? = W3.heap[k]? := fun k hk => World.putObj_heap_other hk
      have kpd : Kp [] w (W3.putObj (w.heap.size + 4) (.deferred none)) := hkp.grown (grownBy_putObj' _ _ _) (fun k hk => by cases hk; right; omega)
      obtain ⟨W4, hW4⟩ : ∃ W4, W4 = W3.putObj (w.heap.size + 4) (.deferred none) := ⟨_, rfl⟩
      rw [← hW4] at kd kpd ⊢
      refine ⟨by simp, .inr ⟨by intro h; simp [Fence.wide] at h, .func 69, _, 69, _, rfl, by simp [invoke, go_sem]; rfl, fun _ _ => trivial, ?_⟩⟩
      refine (caught_stop w.heap.size er a v 0 0 W4 ((kd _ (by omega)).trans hv) ((kd _ (by omega)).trans he) ((kd _ (by omega)).trans ha)).mono ?_
      rintro e u' w' ⟨rfl, rfl, hk, c0, c1, c2⟩
      have f0 : w'.cell? ⟨w.heap.size, 0, none⟩ = some (.slice none 0 0) := cell_of_block c0 0
      have f1 : w'.cell? ⟨w.heap.size + 1, 0, none⟩ = some (.int .i64 er) := cell_of_block c1 0
      have f2 : w'.cell? ⟨w.heap.size + 2, 0, none⟩ = some (.int .i64 a) := cell_of_block c2 0
      refine ⟨.tuple #[.slice none 0 0, .int .i64 er, .int .i64 a], ?_, kpd.trans' hk (fun x hx => by simp at hx; right; omega), ?_⟩
      · simp [results, Tryz.results43, go_sem, f0, f1, f2]
      · rw [hr2]

end Go.Proofs.YtogmealngeejmaaGreatDoor
