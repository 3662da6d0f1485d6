/- What is printed is read again: tokens with something behind them. -/
import Derived.Test.YtogmealngeejmaaDoorLexPlE
namespace Go.Proofs.YtogmealngeejmaaDoor
open Go Go.RowKit

theorem Lx.run_append (p : UInt8 → Bool) (t r : Lx.Bs) : Lx.run p (t ++ r) = if Lx.run p t = t.length then t.length + Lx.run p r else Lx.run p t := by
  induction t with
  | nil => simp [Lx.run]
  | cons b t ih =>
    unfold Lx.run at ih ⊢
    simp only [List.cons_append, List.takeWhile_cons]
    by_cases hb : p b = true
    · simp only [hb, if_true, List.length_cons, ih]
      split <;> split <;> omega
    · simp [hb]
theorem Lx.nx_left {t r : Lx.Bs} {i : Int} (h : i.toNat < t.length) : Lx.nx (t ++ r) i = Lx.nx t i := by
  simp [Lx.nx, List.getD, List.getElem?_append_left h]
theorem Lx.nx_right {t r : Lx.Bs} {i : Int} (h : i.toNat = t.length) : Lx.nx (t ++ r) i = Lx.nx r 0 := by
  unfold Lx.nx List.getD
  rw [h, List.getElem?_append_right (Nat.le_refl _)]
  simp
theorem Lx.nx_past {t : Lx.Bs} {i : Int} (h : t.length ≤ i.toNat) : Lx.nx t i = 0 := by
  simp [Lx.nx, List.getD, List.getElem?_eq_none h]

/-- What may stand behind a token. -/
def Lx.follow (r : Lx.Bs) : Prop := r = [] ∨ Lx.nx r 0 = 32 ∨ Lx.nx r 0 = 46

theorem Lx.follow_no {p : UInt8 → Bool} {r : Lx.Bs} (h : Lx.follow r) (h1 : p 32 = false) (h2 : p 46 = false) : Lx.run p r = 0 := by
  cases r with
  | nil => rfl
  | cons b r =>
    have : p b = false := by
      rcases h with h | h | h
      · cases h
      · have : b = 32 := by simpa [Lx.nx] using h
        rw [this, h1]
      · have : b = 46 := by simpa [Lx.nx] using h
        rw [this, h2]
    simp [Lx.run, this]
theorem Lx.follow_colon {r : Lx.Bs} (h : Lx.follow r) : ((Lx.nx r 0).toNat : Int) ≠ 58 ∧ Lx.nx r 0 ≠ 39 := by
  rcases h with rfl | h | h
  · exact ⟨by decide, by decide⟩
  · rw [h]; exact ⟨by decide, by decide⟩
  · rw [h]; exact ⟨by decide, by decide⟩

theorem Lx.run_follow {p : UInt8 → Bool} {t r : Lx.Bs} (h : Lx.follow r) (h1 : p 32 = false) (h2 : p 46 = false) : Lx.run p (t ++ r) = Lx.run p t := by
  rw [Lx.run_append, Lx.follow_no h h1 h2]
  split
  · omega
  · rfl
theorem Lx.colon_follow {t r : Lx.Bs} {n : Int} (h : Lx.follow r) (hn : n.toNat ≤ t.length) : Lx.colon (t ++ r) n = Lx.colon t n := by
  unfold Lx.colon
  by_cases hl : n.toNat < t.length
  · rw [Lx.nx_left hl]
  · rw [Lx.nx_right (by omega), Lx.nx_past (t := t) (by omega)]
    have := (Lx.follow_colon h).1
    simp [this]

theorem Lx.tok_ext {k : Int} {t tx r : Lx.Bs} {j : Bool} (h0 : t ≠ []) (h : Lx.tok false t = .good k tx t.length) (hr : Lx.follow r) (hj : j = false ∨ Lx.nx t 0 ≠ 46) (h6 : k ≠ 6) :
    Lx.tok j (t ++ r) = .good k tx t.length := by
  have hlen : 1 ≤ t.length := List.length_pos_iff.2 h0
  have hn0 : Lx.nx (t ++ r) 0 = Lx.nx t 0 := Lx.nx_left (by simp; omega)
  unfold Lx.tok at h ⊢
  rw [hn0]
  split at h
  · rename_i hw
    rw [if_pos hw]
    unfold Lx.wordT at h ⊢
    simp only at h ⊢
    rw [hn0, Lx.run_follow hr (by decide) (by decide)]
    have hle := Lx.run_le Lx.wordy t
    rw [Lx.colon_follow hr (by simpa using hle)]
    split at h
    · rename_i hc
      rw [if_pos hc]
      simp only [Tk.good.injEq] at h ⊢
      refine ⟨h.1, ?_, h.2.2⟩
      rw [← h.2.1, List.take_append_of_le_length (by omega)]
    · cases h
  · rename_i hw
    rw [if_neg hw]
    split at h
    · rename_i hp
      rw [if_pos hp]
      unfold Lx.primT at h ⊢
      simp only at h ⊢
      rw [List.drop_append_of_le_length hlen, Lx.run_follow hr (by decide) (by decide)]
      have hle := Lx.run_le Lx.wordy (t.drop 1)
      rw [List.length_drop] at hle
      rw [Lx.colon_follow hr (by omega)]
      split at h
      · rename_i hc
        have h1 : Lx.nx (t ++ r) 1 = Lx.nx t 1 := Lx.nx_left (by simp; omega)
        rw [h1, if_pos hc]
        simp only [Tk.good.injEq] at h ⊢
        refine ⟨h.1, ?_, h.2.2⟩
        rw [← h.2.1, List.take_append_of_le_length (by omega)]
      · cases h
    · rename_i hp
      rw [if_neg hp]
      split at h
      · rename_i hd
        rw [if_pos hd]
        unfold Lx.numT at h ⊢
        simp only at h ⊢
        rw [hn0, Lx.run_follow hr (by decide) (by decide)]
        split at h
        · rename_i hc
          rw [if_pos hc]
          simp only [Tk.good.injEq] at h ⊢
          refine ⟨h.1, ?_, h.2.2⟩
          rw [← h.2.1, List.take_append_of_le_length (by omega)]
        · cases h
      · rename_i hd
        rw [if_neg hd]
        split at h
        · exfalso
          unfold Lx.strT at h
          split at h
          · simp only [Tk.good.injEq] at h; exact h6 h.1.symm
          · cases h
        · rename_i hs
          rw [if_neg hs]
          split at h
          · rename_i ho
            rw [if_pos ho]
            unfold Lx.opT at h ⊢
            simp only at h ⊢
            rw [Lx.run_follow hr (by decide) (by decide)]
            split at h
            · rename_i hc
              rw [if_pos hc]
              simp only [Tk.good.injEq] at h ⊢
              refine ⟨h.1, ?_, h.2.2⟩
              rw [← h.2.1, List.take_append_of_le_length (by omega)]
            · cases h
          · rename_i ho
            rw [if_neg ho]
            split at h
            · rename_i hg
              rw [if_pos hg]
              unfold Lx.signT at h ⊢
              rw [hn0]
              rw [if_neg (by simp)] at h
              rw [if_neg (by
                rintro ⟨a, b, _⟩
                rcases hj with hj | hj
                · rw [hj] at b; cases b
                · exact hj a)]
              simp only [Tk.good.injEq] at h ⊢
              refine ⟨h.1, ?_, h.2.2⟩
              rw [← h.2.1, List.take_append_of_le_length hlen]
            · cases h

theorem Lx.strC_dbl {r : Lx.Bs} (hr : Lx.nx r 0 ≠ 39) : ∀ (tx : Lx.Bs), tx.any Lx.odd = false → Lx.strC (Lx.dbl tx ++ 39 :: r) = some (tx, (Lx.dbl tx).length + 1) := by
  intro tx
  induction tx with
  | nil => intro _; exact Lx.strC_end (by simp [Lx.dbl, Lx.nx]) (by simpa [Lx.dbl, Lx.nx] using hr)
  | cons b tx ih =>
    intro ho
    simp only [List.any_cons, Bool.or_eq_false_iff] at ho
    have hi := ih ho.2
    by_cases hb : b = 39
    · subst hb
      have e : Lx.dbl (39 :: tx) = 39 :: 39 :: Lx.dbl tx := by simp [Lx.dbl]
      rw [e]
      simp only [List.cons_append]
      rw [Lx.strC_two (by simp [Lx.nx]) (by simp [Lx.nx])]
      simp only [List.drop_succ_cons, List.drop_zero, hi]
      simp
    · have e : Lx.dbl (b :: tx) = b :: Lx.dbl tx := by simp [Lx.dbl, hb]
      have hs : Lx.strb b = true := by
        have h1 := ho.1
        have h3 : b.toNat ≠ 39 := fun e => hb (byte_is e)
        simp only [Lx.odd, Bool.or_eq_false_iff, decide_eq_false_iff_not] at h1
        simp only [Lx.strb, Bool.and_eq_true, decide_eq_true_eq, bne_iff_ne, ne_eq]
        omega
      rw [e]
      simp only [List.cons_append]
      rw [Lx.strC_more hs, hi]
      simp

theorem Lx.tok_str {tx r : Lx.Bs} {j : Bool} (ho : tx.any Lx.odd = false) (hr : Lx.follow r) : Lx.tok j (39 :: (Lx.dbl tx ++ [39]) ++ r) = .good 6 tx (39 :: (Lx.dbl tx ++ [39])).length := by
  have hn : Lx.nx (39 :: (Lx.dbl tx ++ [39]) ++ r) 0 = 39 := by simp [Lx.nx]
  unfold Lx.tok
  rw [hn, if_neg (by decide), if_neg (by decide), if_neg (by decide), if_pos (by decide)]
  unfold Lx.strT
  simp only [List.cons_append, List.append_assoc, List.drop_succ_cons, List.drop_zero, List.nil_append]
  rw [Lx.strC_dbl (Lx.follow_colon hr).2 tx ho]
  simp

theorem Lx.kind_tok {t : Lx.Bs} {k : Int} (h : Lx.kind t = k) (h0 : k ≠ 0) (h6 : k ≠ 6) (h9 : k ≠ 9) : t ≠ [] ∧ Lx.tok false t = .good k t t.length := by
  unfold Lx.kind at h
  split at h
  · split at h
    · rename_i p hp
      split at h
      · rename_i hq
        obtain ⟨ht, j, m, hne, hto, htok⟩ := Lx.dv_tok t p (by rw [hp]; simp)
        rw [hq.1] at hne hto htok
        rw [List.drop_zero] at hne htok
        have hm : m = t.length := by omega
        subst hm
        rw [h] at htok
        have h1 := (Lx.tok_spelled hne htok 0 0).2.2.1 h6
        have h2 := Lx.tok_alone hne htok h6 h9
        rw [List.take_length] at h1 h2
        rw [h1] at h2
        exact ⟨hne, h2⟩
      · exact absurd h.symm h0
    · exact absurd h.symm h0
  · exact absurd h.symm h0

theorem Lx.tok_right {x : Tok} {r : Lx.Bs} {j : Bool} (hx : Lx.right x = true) (h9 : x.kind ≠ 9) (hr : Lx.follow r) (hj : j = false ∨ Lx.nx (Lx.spelled x) 0 ≠ 46) :
    Lx.tok j (Lx.spelled x ++ r) = .good x.kind x.text (Lx.spelled x).length := by
  unfold Lx.right at hx
  split at hx
  · cases hx
  · split at hx
    · rename_i h6
      unfold Lx.spelled
      rw [if_pos h6, h6]
      exact Lx.tok_str (by simpa using hx) hr
    · rename_i h6
      simp only [Bool.and_eq_true, bne_iff_ne, ne_eq, beq_iff_eq] at hx
      obtain ⟨hne, ht⟩ := Lx.kind_tok hx.2 hx.1 h6 h9
      unfold Lx.spelled at hj ⊢
      rw [if_neg h6] at hj ⊢
      exact Lx.tok_ext hne ht hr hj h6

theorem Lx.tok_dot {r : Lx.Bs} (h : (Lx.letter (Lx.nx r 0) || Lx.isop (Lx.nx r 0)) = true) : Lx.tok true (46 :: r) = .good 9 [46] 1 := by
  have hn : Lx.nx (46 :: r) 0 = 46 := by simp [Lx.nx]
  have h1 : Lx.nx (46 :: r) 1 = Lx.nx r 0 := by simp [Lx.nx]
  unfold Lx.tok
  rw [hn, if_neg (by decide), if_neg (by decide), if_neg (by decide), if_neg (by decide), if_neg (by decide), if_pos (by decide)]
  unfold Lx.signT
  rw [hn, h1, if_pos ⟨rfl, rfl, by simpa using h⟩]
  simp

end Go.Proofs.YtogmealngeejmaaDoor
