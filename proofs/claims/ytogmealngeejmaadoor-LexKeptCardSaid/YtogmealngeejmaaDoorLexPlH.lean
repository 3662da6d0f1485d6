/- The plain law of LexKept: what an edit keeps. -/
import Derived.Test.YtogmealngeejmaaDoorLexPlE
namespace Go.Proofs.YtogmealngeejmaaDoor
open Go Go.RowKit

/-! What is read of a text is told by its bytes up to one behind it. -/
theorem Lx.run_pre {p : UInt8 → Bool} {Q A B : Lx.Bs} (h : Lx.run p (Q ++ A) < Q.length) : Lx.run p (Q ++ B) = Lx.run p (Q ++ A) := by
  induction Q with
  | nil => simp at h
  | cons b Q ih =>
    unfold Lx.run at ih h ⊢
    simp only [List.cons_append, List.takeWhile_cons] at h ⊢
    by_cases hb : p b = true
    · simp only [hb, if_true, List.length_cons] at h ⊢
      rw [ih (by omega)]
    · simp [hb]
theorem Lx.nx_pre {Q A B : Lx.Bs} {i : Int} (h : i.toNat < Q.length) : Lx.nx (Q ++ B) i = Lx.nx (Q ++ A) i := by
  simp [Lx.nx, List.getD, List.getElem?_append_left h]
theorem Lx.colon_pre {Q A B : Lx.Bs} {i : Int} (h : i.toNat < Q.length) : Lx.colon (Q ++ B) i = Lx.colon (Q ++ A) i := by
  unfold Lx.colon; rw [Lx.nx_pre h]
theorem Lx.take_pre {Q A B : Lx.Bs} {n : Nat} (h : n ≤ Q.length) : (Q ++ B).take n = (Q ++ A).take n := by
  rw [List.take_append_of_le_length h, List.take_append_of_le_length h]

theorem Lx.strC_pre {A B : Lx.Bs} : ∀ (Q : Lx.Bs) {tx : Lx.Bs} {n : Nat}, Lx.strC (Q ++ A) = some (tx, n) → n < Q.length → Lx.strC (Q ++ B) = some (tx, n) := by
  intro Q
  induction hl : Q.length using Nat.strongRecOn generalizing Q with
  | _ k ih =>
    intro tx n h hn
    have h1n : 1 ≤ n := (Lx.strC_le h).1
    match Q, hl, h with
    | [], hl, h => simp at hl; omega
    | [b], hl, h => simp at hl; omega
    | b :: b' :: Q, hl, h =>
      simp only [List.cons_append] at h ⊢
      simp only [List.length_cons] at hl
      rw [Lx.strC] at h ⊢
      by_cases hb : b = 39
      · rw [if_pos hb] at h ⊢
        by_cases hb' : b' = 39
        · rw [if_pos hb'] at h ⊢
          obtain ⟨q, hq, e⟩ := Option.map_eq_some_iff.1 h
          simp only [Prod.mk.injEq] at e
          rw [ih Q.length (by omega) Q rfl (tx := q.1) (n := q.2) hq (by omega)]
          simp [e.1, e.2]
        · rw [if_neg hb'] at h ⊢; exact h
      · rw [if_neg hb] at h ⊢
        by_cases hs : Lx.strb b = true
        · rw [if_pos hs] at h ⊢
          obtain ⟨q, hq, e⟩ := Option.map_eq_some_iff.1 h
          simp only [Prod.mk.injEq] at e
          have := ih (b' :: Q).length (by simp; omega) (b' :: Q) rfl (tx := q.1) (n := q.2) hq (by simp; omega)
          simp only [List.cons_append] at this
          rw [this]
          simp [e.1, e.2]
        · rw [if_neg hs] at h; cases h

theorem Lx.tok_pre {j : Bool} {Q A B : Lx.Bs} {k : Int} {tx : Lx.Bs} {m : Nat} (h0 : Q ++ A ≠ []) (h : Lx.tok j (Q ++ A) = .good k tx m) (hm : m < Q.length) : Lx.tok j (Q ++ B) = .good k tx m := by
  have h1m := (Lx.tok_fits h0 h).1
  have hn0 : Lx.nx (Q ++ B) 0 = Lx.nx (Q ++ A) 0 := Lx.nx_pre (by simp; omega)
  unfold Lx.tok at h ⊢
  rw [hn0]
  split at h
  · rename_i hw
    rw [if_pos hw]
    unfold Lx.wordT at h ⊢
    simp only at h ⊢
    split at h
    · rename_i hc
      have h' := h
      simp only [Tk.good.injEq] at h'
      have hco := Lx.colon_or (Q ++ A) (Lx.run Lx.wordy (Q ++ A) : Int)
      rw [hn0, Lx.run_pre (A := A) (by omega), Lx.colon_pre (A := A) (by omega), if_pos hc, Lx.take_pre (A := A) (by omega)]
      exact h
    · cases h
  · rename_i hw
    rw [if_neg hw]
    split at h
    · rename_i hp
      rw [if_pos hp]
      unfold Lx.primT at h ⊢
      simp only at h ⊢
      split at h
      · rename_i hc
        have h' := h
        simp only [Tk.good.injEq] at h'
        have dA : (Q ++ A).drop 1 = Q.drop 1 ++ A := List.drop_append_of_le_length (by omega)
        have dB : (Q ++ B).drop 1 = Q.drop 1 ++ B := List.drop_append_of_le_length (by omega)
        have hr : Lx.run Lx.wordy ((Q ++ B).drop 1) = Lx.run Lx.wordy ((Q ++ A).drop 1) := by
          rw [dA, dB]
          have hco := Lx.colon_or (Q ++ A) (1 + (Lx.run Lx.wordy ((Q ++ A).drop 1) : Int))
          refine Lx.run_pre ?_
          rw [← dA, List.length_drop]; omega
        have hco := Lx.colon_or (Q ++ A) (1 + (Lx.run Lx.wordy ((Q ++ A).drop 1) : Int))
        rw [hr, Lx.colon_pre (A := A) (by omega), Lx.nx_pre (A := A) (by simp; omega), if_pos hc, Lx.take_pre (A := A) (by omega)]
        exact h
      · cases h
    · rename_i hp
      rw [if_neg hp]
      split at h
      · rename_i hd
        rw [if_pos hd]
        unfold Lx.numT at h ⊢
        simp only at h ⊢
        split at h
        · rename_i hc
          have h' := h
          simp only [Tk.good.injEq] at h'
          rw [hn0, Lx.run_pre (A := A) (by omega), if_pos hc, Lx.take_pre (A := A) (by omega)]
          exact h
        · cases h
      · rename_i hd
        rw [if_neg hd]
        split at h
        · rename_i hq
          rw [if_pos hq]
          unfold Lx.strT at h ⊢
          have dA : (Q ++ A).drop 1 = Q.drop 1 ++ A := List.drop_append_of_le_length (by omega)
          have dB : (Q ++ B).drop 1 = Q.drop 1 ++ B := List.drop_append_of_le_length (by omega)
          rw [dA] at h
          rw [dB]
          cases hs : Lx.strC (Q.drop 1 ++ A) with
          | none => rw [hs] at h; cases h
          | some q =>
            obtain ⟨tx', n⟩ := q
            rw [hs] at h
            simp only [Tk.good.injEq] at h
            rw [Lx.strC_pre (Q.drop 1) hs (by rw [List.length_drop]; omega)]
            simp only [Tk.good.injEq]
            exact h
        · rename_i hs
          rw [if_neg hs]
          split at h
          · rename_i ho
            rw [if_pos ho]
            unfold Lx.opT at h ⊢
            simp only at h ⊢
            split at h
            · rename_i hc
              have h' := h
              simp only [Tk.good.injEq] at h'
              rw [Lx.run_pre (A := A) (by omega), if_pos hc, Lx.take_pre (A := A) (by omega)]
              exact h
            · cases h
          · rename_i ho
            rw [if_neg ho]
            split at h
            · rename_i hg
              rw [if_pos hg]
              unfold Lx.signT at h ⊢
              have h' := h
              simp only [Tk.good.injEq] at h'
              rw [hn0, Lx.nx_pre (A := A) (i := 1) (by simp; omega), Lx.take_pre (A := A) (by omega)]
              exact h
            · cases h

theorem Lx.pas_pre {A B : Lx.Bs} : ∀ (Q : Lx.Bs) (k : Nat) (cm : Option Nat) (n : Nat), Lx.pas k cm (Q ++ A) = .at n → n - k < Q.length → Lx.pas k cm (Q ++ B) = .at n := by
  intro Q
  induction Q with
  | nil => intro k cm n _ h; simp at h
  | cons b Q ih =>
    intro k cm n h hn
    have hle := Lx.pas_le _ _ _ _ h
    simp only [List.cons_append, List.length_cons] at h hn ⊢
    cases cm with
    | none =>
      rw [Lx.pas] at h ⊢
      split at h
      · rename_i hb
        rw [if_pos hb]
        have := Lx.pas_le _ _ _ _ h
        exact ih _ _ _ h (by omega)
      · rename_i hb
        rw [if_neg hb]
        split at h
        · rename_i hq
          rw [if_pos hq]
          have := Lx.pas_le _ _ _ _ h
          exact ih _ _ _ h (by omega)
        · rename_i hq
          rw [if_neg hq]; exact h
    | some c =>
      rw [Lx.pas] at h ⊢
      have hlt : ∀ {cm' : Option Nat}, Lx.pas (k + 1) cm' (Q ++ A) = .at n → n - (k + 1) < Q.length := fun h => by
        have := Lx.pas_le _ _ _ _ h; omega
      split at h
      · rename_i hb
        rw [if_pos hb]; exact ih _ _ _ h (hlt h)
      · rename_i hb
        rw [if_neg hb]; exact ih _ _ _ h (hlt h)

/-- Two texts that begin alike have the same pieces there. -/
theorem Lx.divs_pre {A B : Lx.Bs} (N : Nat) : ∀ (f g a : Nat) (Q : Lx.Bs) (line col name : Int) (many h : Nat), a + Q.length = N → (Q ++ B).length < g → h ≤ (Lx.divs f a (Q ++ A) line col name many).1.length →
    (∀ p ∈ (Lx.divs f a (Q ++ A) line col name many).1.take h, p.to < N) → (Lx.divs g a (Q ++ B) line col name many).1.take h = (Lx.divs f a (Q ++ A) line col name many).1.take h := by
  intro f
  induction f with
  | zero =>
    intro g a Q line col name many h _ _ hh _
    have : h = 0 := by simpa [Lx.divs] using hh
    subst this; simp
  | succ f ih =>
    intro g a Q line col name many h hN hg hh hp
    cases h with
    | zero => simp
    | succ h =>
      obtain ⟨g, rfl⟩ : ∃ g', g = g' + 1 := ⟨g - 1, by omega⟩
      rw [divs_succ] at hh hp
      rw [divs_succ f, divs_succ g]
      cases hpa : Lx.pas 0 none (Q ++ A) with
      | «open» n => rw [hpa] at hh; simp at hh
      | «at» n =>
        rw [hpa] at hh hp
        simp only at hh hp ⊢
        by_cases hne : (Q ++ A).drop n = []
        · rw [if_pos hne] at hh; simp at hh
        · rw [if_neg hne] at hh hp ⊢
          cases htk : Lx.tok (Lx.joined (a + n) name) ((Q ++ A).drop n) with
          | bad e => rw [htk] at hh; simp at hh
          | good k tx m =>
            rw [htk] at hh hp
            simp only at hh hp ⊢
            by_cases hmany : many < 6000
            · rw [if_pos hmany] at hh hp ⊢
              simp only [List.take_succ_cons, List.mem_cons, forall_eq_or_imp, List.length_cons] at hh hp ⊢
              have hfit := Lx.tok_fits hne htk
              have hnm : n + m < Q.length := by have := hp.1; omega
              have hpb : Lx.pas 0 none (Q ++ B) = .at n := Lx.pas_pre Q 0 none n hpa (by omega)
              have dA : (Q ++ A).drop n = Q.drop n ++ A := List.drop_append_of_le_length (by omega)
              have dB : (Q ++ B).drop n = Q.drop n ++ B := List.drop_append_of_le_length (by omega)
              rw [hpb]
              simp only
              have hlen : (Q.drop n).length = Q.length - n := List.length_drop
              rw [dA] at htk hne
              have htb := Lx.tok_pre (B := B) hne htk (by omega)
              have hneB : ¬ (Q ++ B).drop n = [] := by
                rw [dB]; intro e
                have := congrArg List.length e
                simp at this; omega
              rw [if_neg hneB, dB, htb]
              simp only
              rw [if_pos hmany]
              simp only [List.take_succ_cons]
              have t1 : (Q ++ B).take n = (Q ++ A).take n := Lx.take_pre (by omega)
              have t2 : (Q.drop n ++ B).take m = (Q.drop n ++ A).take m := Lx.take_pre (by omega)
              have d2A : (Q.drop n ++ A).drop m = (Q.drop n).drop m ++ A := List.drop_append_of_le_length (by omega)
              have d2B : (Q.drop n ++ B).drop m = (Q.drop n).drop m ++ B := List.drop_append_of_le_length (by omega)
              rw [t1, t2, d2B, dA, d2A]
              rw [dA, d2A] at hh hp
              congr 1
              have hl2 : ((Q.drop n).drop m).length = Q.length - n - m := by simp; omega
              refine ih g (a + n + m) ((Q.drop n).drop m) _ _ _ (many + 1) h (by omega) ?_ (by omega) hp.2
              have : (Q ++ B).length = Q.length + B.length := List.length_append
              rw [List.length_append, hl2]; omega
            · rw [if_neg hmany] at hh; simp at hh

theorem Lx.tok_bad {j : Bool} {l : Lx.Bs} {e : Int} (h : Lx.tok j l = .bad e) : e ≠ 0 := by
  unfold Lx.tok Lx.wordT Lx.primT Lx.numT Lx.opT Lx.strT Lx.signT at h
  simp only at h
  repeat' split at h
  all_goals first | (cases h; done) | (cases h; decide)
theorem Lx.divs_err (f : Nat) : ∀ (a : Nat) (l : Lx.Bs) (line col name : Int) (many : Nat) (er : Int) (q : Nat), (Lx.divs f a l line col name many).2 = some (er, q) → er ≠ 0 := by
  induction f with
  | zero => intro a l line col name many er q h; simp [Lx.divs] at h
  | succ f ih =>
    intro a l line col name many er q h
    rw [divs_succ] at h
    split at h
    · simp only [Option.some.injEq, Prod.mk.injEq] at h; omega
    · split at h
      · cases h
      · split at h
        · rename_i e he
          simp only [Option.some.injEq, Prod.mk.injEq] at h
          rw [← h.1]; exact Lx.tok_bad he
        · split at h
          · exact ih _ _ _ _ _ _ _ _ h
          · simp only [Option.some.injEq, Prod.mk.injEq] at h; omega
theorem Lx.divide_err {t : Lx.Bs} {er : Int} {q : Nat} (h : (Lx.divide t).2 = some (er, q)) : er ≠ 0 := by
  unfold Lx.divide at h
  split at h
  · exact Lx.divs_err _ _ _ _ _ _ _ _ _ h
  · simp only [Option.some.injEq, Prod.mk.injEq] at h; omega

/-- The same, of whole texts that can be divided. -/
theorem Lx.dv_pre {P A B : Lx.Bs} {l m : List Lx.Pc} {a b : Nat} (hl : Lx.dv (P ++ A) = (l, 0, a)) (hm : Lx.dv (P ++ B) = (m, 0, b)) {h : Nat} (hh : h ≤ l.length) (hp : ∀ p ∈ l.take h, p.to < P.length) :
    m.take h = l.take h := by
  have un2 : ∀ {T : Lx.Bs} {x : List Lx.Pc} {c : Nat}, Lx.dv T = (x, 0, c) → T.length ≤ 20000 ∧ x = (Lx.divs (T.length + 1) 0 T 1 1 0 0).1 := by
    intro T x c hd
    unfold Lx.dv at hd
    split at hd
    · rename_i hn
      simp only [Prod.mk.injEq] at hd
      unfold Lx.divide at hd hn
      split at hd
      · rename_i ht; exact ⟨ht, hd.1.symm⟩
      · rename_i ht; rw [if_neg ht] at hn; cases hn
    · rename_i er q hn
      simp only [Prod.mk.injEq] at hd
      exfalso
      -- an error's number is no 0
      have : er ≠ 0 := Lx.divide_err hn
      exact this hd.2.1
  obtain ⟨_, e1⟩ := un2 hl
  obtain ⟨_, e2⟩ := un2 hm
  rw [e1] at hh hp
  rw [e1, e2]
  exact Lx.divs_pre P.length _ _ 0 P 1 1 0 0 h (by omega) (by omega) hh hp

end Go.Proofs.YtogmealngeejmaaDoor
