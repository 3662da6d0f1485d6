/- The plain law of spellings: a token is spelled as it stands; alone it is read again. -/
import Derived.Test.YtogmealngeejmaaDoorLexPlA
namespace Go.Proofs.YtogmealngeejmaaDoor
open Go Go.RowKit

theorem Lx.strC_spelled {l : Lx.Bs} : ∀ {tx : Lx.Bs} {n : Nat}, Lx.strC l = some (tx, n) → Lx.dbl tx ++ [39] = l.take n ∧ tx.any Lx.odd = false := by
  induction hl : l.length using Nat.strongRecOn generalizing l with
  | _ k ih =>
    intro tx n h
    match l, h with
    | [], h => simp [Lx.strC] at h
    | [b], h =>
      simp only [Lx.strC] at h
      split at h
      · rename_i hb; cases h; subst hb; simp [Lx.dbl]
      · cases h
    | b :: b' :: l, h =>
      rw [Lx.strC] at h
      split at h
      · rename_i hb
        subst hb
        split at h
        · rename_i hb'
          subst hb'
          cases hs : Lx.strC l with
          | none => rw [hs] at h; cases h
          | some p =>
            rw [hs] at h
            cases h
            have := ih l.length (by rw [← hl]; simp; omega) rfl hs
            refine ⟨?_, ?_⟩
            · simp [Lx.dbl, this.1]
            · simp only [List.any_cons, this.2, Bool.or_false]; decide
        · cases h; simp [Lx.dbl]
      · split at h
        · rename_i hb hsb
          cases hs : Lx.strC (b' :: l) with
          | none => rw [hs] at h; cases h
          | some p =>
            rw [hs] at h
            cases h
            have := ih (b' :: l).length (by rw [← hl]; simp) rfl hs
            refine ⟨?_, ?_⟩
            · simp [Lx.dbl, hb, this.1]
            · simp only [List.any_cons, this.2, Bool.or_false]
              simp only [Lx.strb, Bool.and_eq_true, decide_eq_true_eq] at hsb
              simp [Lx.odd]; omega
        · cases h

theorem Lx.tok_spelled {j : Bool} {l : Lx.Bs} {k : Int} {tx : Lx.Bs} {m : Nat} (h0 : l ≠ []) (h : Lx.tok j l = .good k tx m) (line col : Int) :
    Lx.spelled ⟨k, tx, line, col⟩ = l.take m ∧ (k = 6 → tx.any Lx.odd = false) ∧ (k ≠ 6 → tx = l.take m) ∧ (k = 9 → tx = [46]) := by
  unfold Lx.tok at h
  split at h
  · unfold Lx.wordT at h
    simp only at h
    split at h
    · cases h
      have hc := Lx.colon_or l (Lx.run Lx.wordy l)
      refine ⟨?_, ?_, fun _ => rfl, ?_⟩
      · unfold Lx.spelled; simp only; rw [if_neg (by split <;> omega)]
      · intro h6; split at h6 <;> omega
      · intro h9; split at h9 <;> omega
    · cases h
  · split at h
    · unfold Lx.primT at h
      simp only at h
      split at h
      · cases h; exact ⟨by unfold Lx.spelled; simp, fun h => absurd h (by decide), fun _ => rfl, fun h => absurd h (by decide)⟩
      · cases h
    · split at h
      · unfold Lx.numT at h
        simp only at h
        split at h
        · cases h; exact ⟨by unfold Lx.spelled; simp, fun h => absurd h (by decide), fun _ => rfl, fun h => absurd h (by decide)⟩
        · cases h
      · split at h
        · rename_i hq
          unfold Lx.strT at h
          split at h
          · rename_i tx' n hs
            cases h
            have := Lx.strC_spelled hs
            refine ⟨?_, fun _ => this.2, fun h => absurd rfl h, fun h => absurd h (by decide)⟩
            cases l with
            | nil => exact absurd rfl h0
            | cons b l =>
              have hb : b = 39 := by
                have : b.toNat = 39 := by simp [Lx.nx] at hq; omega
                exact byte_is this
              subst hb
              unfold Lx.spelled
              simp only [List.drop_succ_cons, List.drop_zero] at this
              simp [this.1]
          · cases h
        · split at h
          · unfold Lx.opT at h
            simp only at h
            split at h
            · cases h; exact ⟨by unfold Lx.spelled; simp, fun h => absurd h (by decide), fun _ => rfl, fun h => absurd h (by decide)⟩
            · cases h
          · split at h
            · unfold Lx.signT at h
              cases h
              refine ⟨?_, ?_, fun _ => rfl, ?_⟩
              · unfold Lx.spelled; simp only; rw [if_neg (by split <;> omega)]
              · intro h6; split at h6 <;> omega
              · intro h9
                split at h9
                · rename_i hc
                  cases l with
                  | nil => exact absurd rfl h0
                  | cons b l => have : b = 46 := by simpa [Lx.nx] using hc.1
                                simp [this]
                · omega
            · cases h

end Go.Proofs.YtogmealngeejmaaDoor
