import Derived.Test.YtogmealngeejmaaGreatDoorJoined22
import Derived.Test.YtogmealngeejmaaGreatDoorJoined25
/- The reference: which dot joins; a text divided. -/
namespace Go.Proofs.YtogmealngeejmaaGreatDoor
open Go Go.RowKit

theorem Lx.issign_zero : Lx.issign 0 = false := by decide
theorem Lx.letter_zero : Lx.letter 0 = false := by decide
theorem Lx.isop_zero : Lx.isop 0 = false := by decide

/-- Whether a dot joins is all that the token's reading asks of what is behind it. -/
theorem Lx.tok_join (j : Bool) (l : Lx.Bs) : Lx.tok j l = match Lx.tok false l with
    | .good k tx m => if k = 8 ∧ tx = [46] ∧ j = true ∧ (Lx.letter (Lx.nx l 1) = true ∨ Lx.isop (Lx.nx l 1) = true) then .good 9 tx m else .good k tx m
    | .bad e => .bad e := by
  have no : ∀ r : Lx.Tk, (∀ k tx m, r = .good k tx m → k ≠ 8) → r = match r with
      | .good k tx m => if k = 8 ∧ tx = [46] ∧ j = true ∧ (Lx.letter (Lx.nx l 1) = true ∨ Lx.isop (Lx.nx l 1) = true) then .good 9 tx m else .good k tx m
      | .bad e => .bad e := by
    intro r h
    cases r with
    | good k tx m => simp only; rw [if_neg (fun h' => h k tx m rfl h'.1)]
    | bad e => rfl
  unfold Lx.tok
  by_cases h1 : Lx.letter (Lx.nx l 0) = true
  · rw [if_pos h1, if_pos h1]
    refine no _ ?_
    intro k tx m h
    unfold Lx.wordT at h
    simp only at h
    split at h
    · simp only [Tk.good.injEq] at h
      have := Lx.colon_or l (Lx.run Lx.wordy l : Int)
      rw [← h.1]; split <;> omega
    · cases h
  · rw [if_neg h1, if_neg h1]
    by_cases h2 : (((Lx.nx l 0).toNat : Int) == 95) = true
    · rw [if_pos h2, if_pos h2]
      refine no _ ?_
      intro k tx m h
      unfold Lx.primT at h
      simp only at h
      split at h
      · simp only [Tk.good.injEq] at h; omega
      · cases h
    · rw [if_neg h2, if_neg h2]
      by_cases h3 : Lx.digit (Lx.nx l 0) = true
      · rw [if_pos h3, if_pos h3]
        refine no _ ?_
        intro k tx m h
        unfold Lx.numT at h
        simp only at h
        split at h
        · simp only [Tk.good.injEq] at h; omega
        · cases h
      · rw [if_neg h3, if_neg h3]
        by_cases h4 : (((Lx.nx l 0).toNat : Int) == 39) = true
        · rw [if_pos h4, if_pos h4]
          refine no _ ?_
          intro k tx m h
          unfold Lx.strT at h
          split at h
          · simp only [Tk.good.injEq] at h; omega
          · cases h
        · rw [if_neg h4, if_neg h4]
          by_cases h5 : Lx.isop (Lx.nx l 0) = true
          · rw [if_pos h5, if_pos h5]
            refine no _ ?_
            intro k tx m h
            unfold Lx.opT at h
            simp only at h
            split at h
            · simp only [Tk.good.injEq] at h; omega
            · cases h
          · rw [if_neg h5, if_neg h5]
            by_cases h6 : Lx.issign (Lx.nx l 0) = true
            · rw [if_pos h6, if_pos h6]
              unfold Lx.signT
              rw [if_neg (c := Lx.nx l 0 = 46 ∧ false = true ∧ _) (by simp)]
              simp only [true_and]
              have ht : l.take 1 = [46] ↔ Lx.nx l 0 = 46 := by
                cases l with
                | nil => rw [show Lx.nx [] 0 = 0 from rfl, Lx.issign_zero] at h6; cases h6
                | cons b l => simp [Lx.nx]
              by_cases h7 : Lx.nx l 0 = 46 ∧ j = true ∧ (Lx.letter (Lx.nx l 1) = true ∨ Lx.isop (Lx.nx l 1) = true)
              · rw [if_pos h7, if_pos ⟨ht.2 h7.1, h7.2⟩]
              · rw [if_neg h7, if_neg (fun h => h7 ⟨ht.1 h.1, h.2⟩)]
            · rw [if_neg h6, if_neg h6]

theorem Lx.adv_flat : ∀ (l : Lx.Bs) (p : Int × Int), (∀ b ∈ l, b ≠ 10) → Lx.adv l p = (p.1, p.2 + l.length) := by
  intro l
  induction l with
  | nil => intro p _; simp [Lx.adv]
  | cons b l ih =>
    intro p h
    have e : Lx.adv (b :: l) p = Lx.adv l (Lx.adv1 p b) := rfl
    rw [e, ih _ (fun c hc => h c (by simp [hc]))]
    unfold Lx.adv1
    rw [if_neg (h b (by simp))]
    simp only [List.length_cons, Prod.mk.injEq, true_and]
    omega
theorem Lx.run_bytes {p : UInt8 → Bool} (h10 : p 10 = false) (l : Lx.Bs) : ∀ b ∈ l.take (Lx.run p l), b ≠ 10 := by
  intro b hb e
  subst e
  have : (l.take (Lx.run p l)) = l.takeWhile p := (List.prefix_iff_eq_take.1 (List.takeWhile_prefix p)).symm
  rw [this] at hb
  have go : ∀ l : Lx.Bs, (10 : UInt8) ∈ l.takeWhile p → False := by
    intro l
    induction l with
    | nil => intro h; simp at h
    | cons c l ih =>
      intro h
      rw [List.takeWhile_cons] at h
      split at h
      · rename_i hc
        rcases List.mem_cons.1 h with e | h
        · rw [← e, h10] at hc; cases hc
        · exact ih h
      · simp at h
  exact go l hb
theorem Lx.take_colon {p : UInt8 → Bool} (h10 : p 10 = false) (l : Lx.Bs) : ∀ b ∈ l.take ((Lx.run p l : Int) + Lx.colon l (Lx.run p l : Int)).toNat, b ≠ 10 := by
  rcases Lx.colon_or l (Lx.run p l : Int) with h | h
  · rw [h, Int.add_zero, Int.toNat_natCast]; exact Lx.run_bytes h10 l
  · rw [h, show ((Lx.run p l : Int) + 1).toNat = Lx.run p l + 1 by omega]
    have hlt := Lx.colon_lt h.symm
    rw [List.take_succ_eq_append_getElem hlt]
    intro b hb
    rcases List.mem_append.1 hb with hb | hb
    · exact Lx.run_bytes h10 l b hb
    · simp only [List.mem_singleton] at hb
      unfold Lx.colon at h
      split at h
      · rename_i hq
        simp only [Lx.nx, Int.toNat_natCast, List.getD, List.getElem?_eq_getElem hlt, Option.getD_some] at hq
        intro e
        rw [← hb, e] at hq
        exact absurd hq (by decide)
      · omega
theorem Lx.dbl_bytes : ∀ tx : Lx.Bs, tx.any Lx.odd = false → ∀ b ∈ Lx.dbl tx ++ [39], b ≠ 10 := by
  intro tx
  induction tx with
  | nil => intro _ b hb; simp [Lx.dbl] at hb; rw [hb]; decide
  | cons c tx ih =>
    intro h b hb
    simp only [List.any_cons, Bool.or_eq_false_iff] at h
    unfold Lx.dbl at hb
    have hc : c ≠ 10 := by
      intro e
      rw [e] at h
      exact absurd h.1 (by decide)
    split at hb
    · simp only [List.cons_append, List.mem_cons] at hb
      rcases hb with rfl | rfl | hb
      · decide
      · decide
      · exact ih h.2 b hb
    · simp only [List.cons_append, List.mem_cons] at hb
      rcases hb with rfl | hb
      · exact hc
      · exact ih h.2 b hb

/-- No token has a line's end in it. -/
theorem Lx.tok_flat {j : Bool} {l : Lx.Bs} {k : Int} {tx : Lx.Bs} {m : Nat} (h0 : l ≠ []) (h : Lx.tok j l = .good k tx m) (p : Int × Int) : Lx.adv (l.take m) p = (p.1, p.2 + m) := by
  have hfit := Lx.tok_fits h0 h
  have hlen : (l.take m).length = m := by rw [List.length_take]; omega
  have hsp := Lx.tok_spelled h0 h 0 0
  have key : ∀ b ∈ l.take m, b ≠ 10 := by
    by_cases h6 : k = 6
    · have h1 := hsp.2.1 h6
      rw [← hsp.1]
      unfold Lx.spelled
      rw [if_pos h6]
      intro b hb
      rcases List.mem_cons.1 hb with rfl | hb
      · decide
      · exact Lx.dbl_bytes tx h1 b hb
    · unfold Lx.tok at h
      split at h
      · unfold Lx.wordT at h
        simp only at h
        split at h
        · simp only [Tk.good.injEq] at h
          rw [← h.2.2]
          exact Lx.take_colon (by decide) l
        · cases h
      · split at h
        · rename_i h95
          unfold Lx.primT at h
          simp only at h
          split at h
          · simp only [Tk.good.injEq] at h
            rw [← h.2.2]
            cases l with
            | nil => exact absurd rfl h0
            | cons c l =>
              have hcol : Lx.colon (c :: l) (1 + (Lx.run Lx.wordy ((c :: l).drop 1) : Int)) = Lx.colon l (Lx.run Lx.wordy l : Int) := by
                unfold Lx.colon Lx.nx
                rw [List.drop_succ_cons, List.drop_zero, show (1 + (Lx.run Lx.wordy l : Int)).toNat = Lx.run Lx.wordy l + 1 by omega, Int.toNat_natCast]
                simp [List.getD]
              rw [hcol]
              simp only [List.drop_succ_cons, List.drop_zero]
              have hco := Lx.colon_or l (Lx.run Lx.wordy l : Int)
              rw [show (1 + (Lx.run Lx.wordy l : Int) + Lx.colon l (Lx.run Lx.wordy l : Int)).toNat = ((Lx.run Lx.wordy l : Int) + Lx.colon l (Lx.run Lx.wordy l : Int)).toNat + 1 by omega, List.take_succ_cons]
              intro b hb
              rcases List.mem_cons.1 hb with rfl | hb
              · intro e
                rw [show Lx.nx (b :: l) 0 = b from by simp [Lx.nx], e] at h95
                exact absurd h95 (by decide)
              · exact Lx.take_colon (by decide) l b hb
          · cases h
        · split at h
          · unfold Lx.numT at h
            simp only at h
            split at h
            · simp only [Tk.good.injEq] at h
              rw [← h.2.2, Int.toNat_natCast]
              exact Lx.run_bytes (by decide) l
            · cases h
          · split at h
            · unfold Lx.strT at h
              split at h
              · simp only [Tk.good.injEq] at h; exact absurd h.1.symm h6
              · cases h
            · split at h
              · unfold Lx.opT at h
                simp only at h
                split at h
                · simp only [Tk.good.injEq] at h
                  rw [← h.2.2, Int.toNat_natCast]
                  exact Lx.run_bytes (by decide) l
                · cases h
              · split at h
                · rename_i hsg
                  unfold Lx.signT at h
                  simp only [Tk.good.injEq] at h
                  rw [← h.2.2]
                  cases l with
                  | nil => exact absurd rfl h0
                  | cons c l =>
                    intro b hb e
                    simp only [List.take_succ_cons, List.take_zero, List.mem_singleton] at hb
                    rw [show Lx.nx (c :: l) 0 = c from by simp [Lx.nx], ← hb, e] at hsg
                    exact absurd hsg (by decide)
                · cases h
  rw [Lx.adv_flat _ _ key, hlen]

end Go.Proofs.YtogmealngeejmaaGreatDoor
