/- A token alone is read again: what is read is right. -/
import Derived.Test.YtogmealngeejmaaDoorLexPlB
namespace Go.Proofs.YtogmealngeejmaaDoor
open Go Go.RowKit

theorem Lx.run_take (p : UInt8 → Bool) : ∀ (l : Lx.Bs) (m : Nat), Lx.run p (l.take m) = min m (Lx.run p l) := by
  intro l
  induction l with
  | nil => intro m; simp [Lx.run]
  | cons b l ih =>
    intro m
    cases m with
    | zero => simp [Lx.run]
    | succ m =>
      have := ih m
      unfold Lx.run at this ⊢
      simp only [List.take_succ_cons, List.takeWhile_cons]
      split
      · simp only [List.length_cons]; omega
      · simp
theorem Lx.nx_take (l : Lx.Bs) (m : Nat) (i : Int) : Lx.nx (l.take m) i = if i.toNat < m then Lx.nx l i else 0 := by
  unfold Lx.nx
  simp only [List.getD, List.getElem?_take]
  split <;> simp

theorem Lx.nx_in {l : Lx.Bs} {m : Nat} {i : Int} (h : i.toNat < m) : Lx.nx (l.take m) i = Lx.nx l i := by rw [Lx.nx_take, if_pos h]
theorem Lx.nx_out {l : Lx.Bs} {m : Nat} {i : Int} (h : m ≤ i.toNat) : Lx.nx (l.take m) i = 0 := by rw [Lx.nx_take, if_neg (by omega)]
theorem Lx.colon_take {l : Lx.Bs} {n m : Int} (hn : 0 ≤ n) (hm : m = n + Lx.colon l n) : Lx.colon (l.take m.toNat) n = Lx.colon l n := by
  rcases Lx.colon_or l n with h1 | h1
  · rw [h1] at hm ⊢
    unfold Lx.colon
    rw [Lx.nx_out (by omega)]
    simp
  · have h2 := h1
    rw [h1] at hm ⊢
    unfold Lx.colon at h2 ⊢
    rw [Lx.nx_in (by omega)]
    exact h2

theorem Lx.tok_alone {j : Bool} {l : Lx.Bs} {k : Int} {tx : Lx.Bs} {m : Nat} (h0 : l ≠ []) (h : Lx.tok j l = .good k tx m) (h6 : k ≠ 6) (h9 : k ≠ 9) :
    Lx.tok false (l.take m) = .good k tx m := by
  have hm := Lx.tok_fits h0 h
  have hn0 : Lx.nx (l.take m) 0 = Lx.nx l 0 := by rw [Lx.nx_take]; simp; omega
  unfold Lx.tok at h ⊢
  rw [hn0]
  split at h
  · rename_i hw
    rw [if_pos hw]
    unfold Lx.wordT at h ⊢
    simp only at h ⊢
    rw [hn0]
    split at h
    · rename_i hc
      cases h
      have hcc := Lx.colon_or l (Lx.run Lx.wordy l)
      have hr : Lx.run Lx.wordy (l.take ((Lx.run Lx.wordy l : Int) + Lx.colon l (Lx.run Lx.wordy l)).toNat) = Lx.run Lx.wordy l := by rw [Lx.run_take]; omega
      rw [hr]
      have hco := Lx.colon_take (l := l) (n := (Lx.run Lx.wordy l : Int)) (by omega) rfl
      rw [hco, if_pos hc, List.take_take, Nat.min_self]
    · cases h
  · rename_i hw
    rw [if_neg hw]
    split at h
    · rename_i hp
      rw [if_pos hp]
      unfold Lx.primT at h ⊢
      simp only at h ⊢
      split at h
      · rename_i hc
        cases h
        obtain ⟨c1, c2, c3⟩ := hc
        have hcc := Lx.colon_or l (1 + (Lx.run Lx.wordy (l.drop 1) : Int))
        obtain ⟨n, hn⟩ : ∃ n, n = Lx.run Lx.wordy (l.drop 1) := ⟨_, rfl⟩
        rw [← hn] at c1 c2 hcc hm ⊢
        obtain ⟨M, hM⟩ : ∃ M, M = (1 + (n : Int) + Lx.colon l (1 + (n : Int))).toNat := ⟨_, rfl⟩
        rw [← hM]
        have hr : Lx.run Lx.wordy ((l.take M).drop 1) = n := by
          rw [List.drop_take, Lx.run_take, ← hn]; omega
        rw [hr]
        have hco : Lx.colon (l.take M) (1 + (n : Int)) = Lx.colon l (1 + (n : Int)) := by rw [hM]; exact Lx.colon_take (by omega) rfl
        have hn1 : Lx.nx (l.take M) 1 = Lx.nx l 1 := Lx.nx_in (by simp; omega)
        rw [hco, hn1, if_pos ⟨c1, c2, c3⟩, ← hM, List.take_take, Nat.min_self]
      · cases h
    · rename_i hp
      rw [if_neg hp]
      split at h
      · rename_i hd
        rw [if_pos hd]
        unfold Lx.numT at h ⊢
        simp only at h ⊢
        rw [hn0]
        split at h
        · rename_i hc
          cases h
          have hr : Lx.run Lx.digit (l.take (Lx.run Lx.digit l : Int).toNat) = Lx.run Lx.digit l := by rw [Lx.run_take]; omega
          rw [hr, if_pos hc, List.take_take, Nat.min_self]
        · cases h
      · rename_i hd
        rw [if_neg hd]
        split at h
        · exfalso
          unfold Lx.strT at h
          split at h
          · cases h; exact h6 rfl
          · cases h
        · rename_i hs
          rw [if_neg hs]
          split at h
          · rename_i ho
            rw [if_pos ho]
            unfold Lx.opT at h ⊢
            simp only at h ⊢
            split at h
            · rename_i hc
              cases h
              have hr : Lx.run Lx.isop (l.take (Lx.run Lx.isop l : Int).toNat) = Lx.run Lx.isop l := by rw [Lx.run_take]; omega
              rw [hr, if_pos hc, List.take_take, Nat.min_self]
            · cases h
          · rename_i ho
            rw [if_neg ho]
            split at h
            · rename_i hg
              rw [if_pos hg]
              unfold Lx.signT at h ⊢
              cases h
              rw [if_neg (by simp), List.take_take]
              split at h9
              · exact absurd rfl h9
              · rename_i hc; rw [if_neg hc]; simp
            · cases h

end Go.Proofs.YtogmealngeejmaaDoor
