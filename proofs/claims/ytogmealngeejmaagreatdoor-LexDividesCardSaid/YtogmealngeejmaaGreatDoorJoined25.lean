import Derived.Test.YtogmealngeejmaaGreatDoorJoined24
/- A token alone is read again: what is read is right. -/
namespace Go.Proofs.YtogmealngeejmaaGreatDoor
open Go Go.RowKit

theorem Lx.run_take (p : UInt8 → Bool) : ∀ (l : Lx.Bs) (m : Nat), Lx.run p (l.take m) = min m (Lx.run p l) := by
  intro l
  induction l with
  | nil => intro m; simp [Lx.run]
  | cons b l ih =>
    intro m
    cases m with
    | zero => simp [Lx.run]
    | succ m =>
      have := ih m
      unfold Lx.run at this ⊢
      simp only [List.take_succ_cons, List.takeWhile_cons]
      split
      · simp only [List.length_cons]; omega
      · simp
theorem Lx.nx_take (l : Lx.Bs) (m : Nat) (i : Int) : Lx.nx (l.take m) i = if i.toNat < m then Lx.nx l i else 0 := by
  unfold Lx.nx
  simp only [List.getD, List.getElem?_take]
  split <;> simp

theorem Lx.nx_in {l : Lx.Bs} {m : Nat} {i : Int} (h : i.toNat < m) : Lx.nx (l.take m) i = Lx.nx l i := by rw [Lx.nx_take, if_pos h]
theorem Lx.nx_out {l : Lx.Bs} {m : Nat} {i : Int} (h : m ≤ i.toNat) : Lx.nx (l.take m) i = 0 := by rw [Lx.nx_take, if_neg (by omega)]
theorem Lx.colon_take {l : Lx.Bs} {n m : Int} (hn : 0 ≤ n) (hm : m = n + Lx.colon l n) : Lx.colon (l.take m.toNat) n = Lx.colon l n := by
  rcases Lx.colon_or l n with h1 | h1
  · rw [h1] at hm ⊢
    unfold Lx.colon
    rw [Lx.nx_out (by omega)]
    simp
  · have h2 := h1
    rw [h1] at hm ⊢
    unfold Lx.colon at h2 ⊢
    rw [Lx.nx_in (by omega)]
    exact h2

theorem Lx.tok_alone {j : Bool} {l : Lx.Bs} {k : Int} {tx : Lx.Bs} {m : Nat} (h0 : l ≠ []) (h : Lx.tok j l = .good k tx m) (h6 : k ≠ 6) (h9 : k ≠ 9) :
    Lx.tok false (l.take m) = .good k tx m := by
  have hm := Lx.tok_fits h0 h
  have hn0 : Lx.nx (l.take m) 0 = Lx.nx l 0 := by rw [Lx.nx_take]; simp; omega
  unfold Lx.tok at h ⊢
  rw [hn0]
  split at h
  · rename_i hw
    rw [if_pos hw]
    unfold Lx.wordT at h ⊢
    simp only at h ⊢
    rw [hn0]
    split at h
    · rename_i hc
      cases h
      have hcc := Lx.colon_or l (Lx.run Lx.wordy l)
      have hr : Lx.run Lx.wordy (l.take ((Lx.run Lx.wordy l : Int) + Lx.colon l (Lx.run Lx.wordy l)).toNat) = Lx.run Lx.wordy l := by rw [Lx.run_take]; omega
      rw [hr]
      have hco := Lx.colon_take (l := l) (n := (Lx.run Lx.wordy l : Int)) (by omega) rfl
      rw [hco, if_pos hc, List.take_take, Nat.min_self]
    · cases h
  · rename_i hw
    rw [if_neg hw]
    split at h
    · rename_i hp
      rw [if_pos hp]
      unfold Lx.primT at h ⊢
      simp only at h ⊢
      split at h
      · rename_i hc
        cases h
        obtain ⟨c1, c2, c3⟩ := hc
        have hcc := Lx.colon_or l (1 + (Lx.run Lx.wordy (l.drop 1) : Int))
        obtain ⟨n, hn⟩ : ∃ n, n = Lx.run Lx.wordy (l.drop 1) := ⟨_, rfl⟩
        rw [← hn] at c1 c2 hcc hm ⊢
        obtain ⟨M, hM⟩ : ∃ M, M = (1 + (n : Int) + Lx.colon l (1 + (n : Int))).toNat := ⟨_, rfl⟩
        rw [← hM]
        have hr : Lx.run Lx.wordy ((l.take M).drop 1) = n := by
          rw [List.drop_take, Lx.run_take, ← hn]; omega
        rw [hr]
        have hco : Lx.colon (l.take M) (1 + (n : Int)) = Lx.colon l (1 + (n : Int)) := by rw [hM]; exact Lx.colon_take (by omega) rfl
        have hn1 : Lx.nx (l.take M) 1 = Lx.nx l 1 := Lx.nx_in (by simp; omega)
        rw [hco, hn1, if_pos ⟨c1, c2, c3⟩, ← hM, List.take_take, Nat.min_self]
      · cases h
    · rename_i hp
      rw [if_neg hp]
      split at h
      · rename_i hd
        rw [if_pos hd]
        unfold Lx.numT at h ⊢
        simp only at h ⊢
        rw [hn0]
        split at h
        · rename_i hc
          cases h
          have hr : Lx.run Lx.digit (l.take (Lx.run Lx.digit l : Int).toNat) = Lx.run Lx.digit l := by rw [Lx.run_take]; omega
          rw [hr, if_pos hc, List.take_take, Nat.min_self]
        · cases h
      · rename_i hd
        rw [if_neg hd]
        split at h
        · exfalso
          unfold Lx.strT at h
          split at h
          · cases h; exact h6 rfl
          · cases h
        · rename_i hs
          rw [if_neg hs]
          split at h
          · rename_i ho
            rw [if_pos ho]
            unfold Lx.opT at h ⊢
            simp only at h ⊢
            split at h
            · rename_i hc
              cases h
              have hr : Lx.run Lx.isop (l.take (Lx.run Lx.isop l : Int).toNat) = Lx.run Lx.isop l := by rw [Lx.run_take]; omega
              rw [hr, if_pos hc, List.take_take, Nat.min_self]
            · cases h
          · rename_i ho
            rw [if_neg ho]
            split at h
            · rename_i hg
              rw [if_pos hg]
              unfold Lx.signT at h ⊢
              cases h
              rw [if_neg (by simp), List.take_take]
              split at h9
              · exact absurd rfl h9
              · rename_i hc; rw [if_neg hc]; simp
            · cases h

end Go.Proofs.YtogmealngeejmaaGreatDoor

/- What is read is right. -/
namespace Go.Proofs.YtogmealngeejmaaGreatDoor
open Go Go.RowKit

theorem Lx.tok_first {j : Bool} {l : Lx.Bs} {k : Int} {tx : Lx.Bs} {m : Nat} (h : Lx.tok j l = .good k tx m) : Lx.nx l 0 ≠ 34 ∧ Lx.blank (Lx.nx l 0) = false := by
  have no : ∀ b : UInt8, Lx.nx l 0 = b → Lx.letter b = false → (((b.toNat : Int) == 95) = false) → Lx.digit b = false → (((b.toNat : Int) == 39) = false) → Lx.isop b = false → Lx.issign b = false → False := by
    intro b hb h1 h2 h3 h4 h5 h6
    unfold Lx.tok at h
    rw [hb] at h
    simp [h1, h2, h3, h4, h5, h6] at h
  refine ⟨fun e => no 34 e (by decide) (by decide) (by decide) (by decide) (by decide) (by decide), ?_⟩
  cases hb : Lx.blank (Lx.nx l 0) with
  | false => rfl
  | true =>
    exfalso
    simp only [Lx.blank, Bool.or_eq_true, beq_iff_eq] at hb
    rcases hb with (hb | hb) | hb
    · have e : Lx.nx l 0 = 32 := (byte_is (n := 32) (by omega)).trans rfl
      exact no 32 e (by decide) (by decide) (by decide) (by decide) (by decide) (by decide)
    · have e : Lx.nx l 0 = 9 := (byte_is (n := 9) (by omega)).trans rfl
      exact no 9 e (by decide) (by decide) (by decide) (by decide) (by decide) (by decide)
    · have e : Lx.nx l 0 = 10 := (byte_is (n := 10) (by omega)).trans rfl
      exact no 10 e (by decide) (by decide) (by decide) (by decide) (by decide) (by decide)

theorem Lx.pas_tok {j : Bool} {l : Lx.Bs} {k : Int} {tx : Lx.Bs} {m : Nat} (h : Lx.tok j l = .good k tx m) : Lx.pas 0 none l = .at 0 := by
  obtain ⟨h1, h2⟩ := Lx.tok_first h
  refine Lx.pas_stop h1 ?_
  rintro b l' rfl
  exact h2

theorem Lx.pas_nil : Lx.pas 0 none [] = .at 0 := by simp [Lx.pas]

/-- A text that is one token is divided into it. -/
theorem Lx.dv_one {tx : Lx.Bs} {k : Int} {tx' : Lx.Bs} (h0 : tx ≠ []) (hl : tx.length ≤ 20000) (h : Lx.tok false tx = .good k tx' tx.length) : Lx.dv tx = ([⟨k, tx', 1, 1, 0, tx.length⟩], 0, 0) := by
  have hd : Lx.divide tx = ([⟨k, tx', 1, 1, 0, tx.length⟩], none) := by
    unfold Lx.divide
    rw [if_pos hl, divs_succ, Lx.pas_tok h]
    simp only [List.drop_zero, List.take_zero]
    rw [if_neg h0, show Lx.joined (0 + 0) 0 = false from rfl, h]
    simp only
    rw [if_pos (by omega)]
    have hlen : 1 ≤ tx.length := List.length_pos_iff.2 h0
    obtain ⟨f, hf⟩ : ∃ f, tx.length = f + 1 := ⟨tx.length - 1, by omega⟩
    have hz : ∀ (a : Nat) (line col name : Int) (many : Nat), Lx.divs tx.length a (tx.drop tx.length) line col name many = ([], none) := by
      intro a line col name many
      rw [hf, List.drop_eq_nil_of_le (by omega), divs_succ, Lx.pas_nil]
      simp
    rw [hz]
    simp [Lx.adv]
  unfold Lx.dv
  rw [hd]

theorem Lx.tok_kind {j : Bool} {l : Lx.Bs} {k : Int} {tx : Lx.Bs} {m : Nat} (h : Lx.tok j l = .good k tx m) : 1 ≤ k := by
  unfold Lx.tok Lx.wordT Lx.primT Lx.numT Lx.opT Lx.strT Lx.signT at h
  simp only at h
  repeat' split at h
  all_goals first | (cases h; done) | skip
  all_goals (cases h; try decide)
  all_goals (have := Lx.colon_or l (Lx.run Lx.wordy l : Int); omega)

theorem Lx.divs_tok (T : Lx.Bs) (f : Nat) : ∀ (a : Nat) (l : Lx.Bs) (line col name : Int) (many : Nat), l = T.drop a →
    ∀ p ∈ (Lx.divs f a l line col name many).1, ∃ j m, T.drop p.frm ≠ [] ∧ p.to = p.frm + m ∧ Lx.tok j (T.drop p.frm) = .good p.kind p.text m := by
  induction f with
  | zero => intro a l line col name many _ p hp; simp [Lx.divs] at hp
  | succ f ih =>
    intro a l line col name many hl p hp
    rw [divs_succ] at hp
    split at hp
    · simp at hp
    · rename_i n hn
      split at hp
      · simp at hp
      · rename_i hne
        split at hp
        · simp at hp
        · rename_i k tx m htk
          split at hp
          · simp only [List.mem_cons] at hp
            have e : T.drop (a + n) = l.drop n := by rw [hl, List.drop_drop]
            rcases hp with rfl | hp
            · exact ⟨_, m, by simpa only [e] using hne, rfl, by simpa only [e] using htk⟩
            · exact ih _ _ _ _ _ _ (by rw [← e, List.drop_drop]) p hp
          · simp at hp

theorem Lx.dv_tok (t : Lx.Bs) : ∀ p ∈ (Lx.dv t).1, t.length ≤ 20000 ∧ ∃ j m, t.drop p.frm ≠ [] ∧ p.to = p.frm + m ∧ Lx.tok j (t.drop p.frm) = .good p.kind p.text m := by
  intro p hp
  unfold Lx.dv at hp
  split at hp
  · unfold Lx.divide at hp
    split at hp
    · rename_i h; exact ⟨h, Lx.divs_tok t _ 0 t 1 1 0 0 rfl p hp⟩
    · simp at hp
  · simp at hp

theorem Lx.adv_col1 : ∀ (l : Lx.Bs) (p : Int × Int), 1 ≤ p.2 → 1 ≤ (Lx.adv l p).2 := by
  intro l
  induction l with
  | nil => intro p h; exact h
  | cons b l ih => intro p h; exact ih _ (by unfold Lx.adv1; split <;> simp <;> omega)

theorem Lx.dv_right {t : Lx.Bs} {p : Lx.Pc} (hp : p ∈ (Lx.dv t).1) : Lx.right (tkOf p) = true := by
  obtain ⟨ht, j, m, hne, hto, htok⟩ := Lx.dv_tok t p hp
  have hpl := Lx.dv_place t p hp
  have hft := Lx.dv_from t p hp
  have htl := (Lx.dv_to t p hp).2
  have b1 := Lx.adv_bound (t.take p.frm) (1, 1)
  have b2 := Lx.adv_col (t.take p.frm) (1, 1) (by decide)
  have b3 := Lx.adv_col1 (t.take p.frm) (1, 1) (by decide)
  rw [hpl] at b1 b2 b3
  simp only [List.length_take] at b1 b2 b3
  have hs := Lx.tok_spelled hne htok p.line p.col
  unfold Lx.right tkOf
  simp only
  rw [if_neg (by
    intro h
    refine h.2 ⟨?_, ?_⟩
    · simp only [Lx.inside, Bool.and_eq_true, decide_eq_true_eq]; omega
    · simp only [Lx.inside, Bool.and_eq_true, decide_eq_true_eq]; omega)]
  by_cases h9 : p.kind = 9
  · rw [if_pos h9, hs.2.2.2 h9]; rfl
  · rw [if_neg h9]
    by_cases h6 : p.kind = 6
    · rw [if_pos h6, hs.2.1 h6]; rfl
    · rw [if_neg h6]
      have hk := Lx.tok_kind htok
      have hfit := Lx.tok_fits hne htok
      have ha := Lx.tok_alone hne htok h6 h9
      rw [← hs.2.2.1 h6] at ha
      have hlen : p.text.length = m := by rw [hs.2.2.1 h6, List.length_take]; omega
      have h1 := Lx.dv_one (tx := p.text) (by intro e; rw [e] at hlen; simp at hlen; omega) (by omega) (by rw [hlen]; exact ha)
      have : Lx.kind p.text = p.kind := by unfold Lx.kind; rw [h1]; simp
      rw [this]
      simp
      omega

end Go.Proofs.YtogmealngeejmaaGreatDoor

/- The place of a piece is that of its first byte, told from its end and its spelling. -/
namespace Go.Proofs.YtogmealngeejmaaGreatDoor
open Go Go.RowKit

theorem idxOf_get {α : Type} {p : α → Bool} {l : List α} (h : ¬ idxOf p l < 0) : ∃ (k : Nat) (x : α), idxOf p l = k ∧ l[k]? = some x ∧ p x = true ∧ ∀ (j : Nat) (y : α), j < k → l[j]? = some y → p y = false := by
  unfold idxOf at h ⊢
  cases hf : l.findIdx? p with
  | none => rw [hf] at h; simp at h
  | some k =>
    rw [List.findIdx?_eq_some_iff_getElem] at hf
    obtain ⟨hk, hp, hj⟩ := hf
    refine ⟨k, l[k], rfl, by simp, hp, fun j y hjk hy => ?_⟩
    have := hj j hjk
    obtain ⟨_, rfl⟩ := List.getElem?_eq_some_iff.1 hy
    simpa using this

theorem Lx.dv_spell {t : Lx.Bs} {p : Lx.Pc} (hp : p ∈ (Lx.dv t).1) : p.frm + (Lx.spelled (tkOf p)).length = p.to ∧ Lx.at t ((p.to : Int) - (Lx.spelled (tkOf p)).length) = (p.line, p.col, 0) := by
  obtain ⟨ht, j, m, hne, hto, htok⟩ := Lx.dv_tok t p hp
  have hpl := Lx.dv_place t p hp
  have htl := (Lx.dv_to t p hp).2
  have hs := (Lx.tok_spelled hne htok p.line p.col).1
  have hfit := Lx.tok_fits hne htok
  rw [List.length_drop] at hfit
  have hl : (Lx.spelled (tkOf p)).length = m := by
    show (Lx.spelled ⟨p.kind, p.text, p.line, p.col⟩).length = m
    rw [hs, List.length_take, List.length_drop]; omega
  refine ⟨by omega, ?_⟩
  rw [hl, show (p.to : Int) - (m : Int) = (p.frm : Int) by omega]
  unfold Lx.at
  rw [if_pos ⟨by omega, by omega⟩, Int.toNat_natCast, hpl]

end Go.Proofs.YtogmealngeejmaaGreatDoor

/- The plain law of LexKept: what an edit keeps. -/
namespace Go.Proofs.YtogmealngeejmaaGreatDoor
open Go Go.RowKit

/-! What is read of a text is told by its bytes up to one behind it. -/
theorem Lx.run_pre {p : UInt8 → Bool} {Q A B : Lx.Bs} (h : Lx.run p (Q ++ A) < Q.length) : Lx.run p (Q ++ B) = Lx.run p (Q ++ A) := by
  induction Q with
  | nil => simp at h
  | cons b Q ih =>
    unfold Lx.run at ih h ⊢
    simp only [List.cons_append, List.takeWhile_cons] at h ⊢
    by_cases hb : p b = true
    · simp only [hb, if_true, List.length_cons] at h ⊢
      rw [ih (by omega)]
    · simp [hb]
theorem Lx.nx_pre {Q A B : Lx.Bs} {i : Int} (h : i.toNat < Q.length) : Lx.nx (Q ++ B) i = Lx.nx (Q ++ A) i := by
  simp [Lx.nx, List.getD, List.getElem?_append_left h]
theorem Lx.colon_pre {Q A B : Lx.Bs} {i : Int} (h : i.toNat < Q.length) : Lx.colon (Q ++ B) i = Lx.colon (Q ++ A) i := by
  unfold Lx.colon; rw [Lx.nx_pre h]
theorem Lx.take_pre {Q A B : Lx.Bs} {n : Nat} (h : n ≤ Q.length) : (Q ++ B).take n = (Q ++ A).take n := by
  rw [List.take_append_of_le_length h, List.take_append_of_le_length h]

theorem Lx.strC_pre {A B : Lx.Bs} : ∀ (Q : Lx.Bs) {tx : Lx.Bs} {n : Nat}, Lx.strC (Q ++ A) = some (tx, n) → n < Q.length → Lx.strC (Q ++ B) = some (tx, n) := by
  intro Q
  induction hl : Q.length using Nat.strongRecOn generalizing Q with
  | _ k ih =>
    intro tx n h hn
    have h1n : 1 ≤ n := (Lx.strC_le h).1
    match Q, hl, h with
    | [], hl, h => simp at hl; omega
    | [b], hl, h => simp at hl; omega
    | b :: b' :: Q, hl, h =>
      simp only [List.cons_append] at h ⊢
      simp only [List.length_cons] at hl
      rw [Lx.strC] at h ⊢
      by_cases hb : b = 39
      · rw [if_pos hb] at h ⊢
        by_cases hb' : b' = 39
        · rw [if_pos hb'] at h ⊢
          obtain ⟨q, hq, e⟩ := Option.map_eq_some_iff.1 h
          simp only [Prod.mk.injEq] at e
          rw [ih Q.length (by omega) Q rfl (tx := q.1) (n := q.2) hq (by omega)]
          simp [e.1, e.2]
        · rw [if_neg hb'] at h ⊢; exact h
      · rw [if_neg hb] at h ⊢
        by_cases hs : Lx.strb b = true
        · rw [if_pos hs] at h ⊢
          obtain ⟨q, hq, e⟩ := Option.map_eq_some_iff.1 h
          simp only [Prod.mk.injEq] at e
          have := ih (b' :: Q).length (by simp; omega) (b' :: Q) rfl (tx := q.1) (n := q.2) hq (by simp; omega)
          simp only [List.cons_append] at this
          rw [this]
          simp [e.1, e.2]
        · rw [if_neg hs] at h; cases h

theorem Lx.tok_pre {j : Bool} {Q A B : Lx.Bs} {k : Int} {tx : Lx.Bs} {m : Nat} (h0 : Q ++ A ≠ []) (h : Lx.tok j (Q ++ A) = .good k tx m) (hm : m < Q.length) : Lx.tok j (Q ++ B) = .good k tx m := by
  have h1m := (Lx.tok_fits h0 h).1
  have hn0 : Lx.nx (Q ++ B) 0 = Lx.nx (Q ++ A) 0 := Lx.nx_pre (by simp; omega)
  unfold Lx.tok at h ⊢
  rw [hn0]
  split at h
  · rename_i hw
    rw [if_pos hw]
    unfold Lx.wordT at h ⊢
    simp only at h ⊢
    split at h
    · rename_i hc
      have h' := h
      simp only [Tk.good.injEq] at h'
      have hco := Lx.colon_or (Q ++ A) (Lx.run Lx.wordy (Q ++ A) : Int)
      rw [hn0, Lx.run_pre (A := A) (by omega), Lx.colon_pre (A := A) (by omega), if_pos hc, Lx.take_pre (A := A) (by omega)]
      exact h
    · cases h
  · rename_i hw
    rw [if_neg hw]
    split at h
    · rename_i hp
      rw [if_pos hp]
      unfold Lx.primT at h ⊢
      simp only at h ⊢
      split at h
      · rename_i hc
        have h' := h
        simp only [Tk.good.injEq] at h'
        have dA : (Q ++ A).drop 1 = Q.drop 1 ++ A := List.drop_append_of_le_length (by omega)
        have dB : (Q ++ B).drop 1 = Q.drop 1 ++ B := List.drop_append_of_le_length (by omega)
        have hr : Lx.run Lx.wordy ((Q ++ B).drop 1) = Lx.run Lx.wordy ((Q ++ A).drop 1) := by
          rw [dA, dB]
          have hco := Lx.colon_or (Q ++ A) (1 + (Lx.run Lx.wordy ((Q ++ A).drop 1) : Int))
          refine Lx.run_pre ?_
          rw [← dA, List.length_drop]; omega
        have hco := Lx.colon_or (Q ++ A) (1 + (Lx.run Lx.wordy ((Q ++ A).drop 1) : Int))
        rw [hr, Lx.colon_pre (A := A) (by omega), Lx.nx_pre (A := A) (by simp; omega), if_pos hc, Lx.take_pre (A := A) (by omega)]
        exact h
      · cases h
    · rename_i hp
      rw [if_neg hp]
      split at h
      · rename_i hd
        rw [if_pos hd]
        unfold Lx.numT at h ⊢
        simp only at h ⊢
        split at h
        · rename_i hc
          have h' := h
          simp only [Tk.good.injEq] at h'
          rw [hn0, Lx.run_pre (A := A) (by omega), if_pos hc, Lx.take_pre (A := A) (by omega)]
          exact h
        · cases h
      · rename_i hd
        rw [if_neg hd]
        split at h
        · rename_i hq
          rw [if_pos hq]
          unfold Lx.strT at h ⊢
          have dA : (Q ++ A).drop 1 = Q.drop 1 ++ A := List.drop_append_of_le_length (by omega)
          have dB : (Q ++ B).drop 1 = Q.drop 1 ++ B := List.drop_append_of_le_length (by omega)
          rw [dA] at h
          rw [dB]
          cases hs : Lx.strC (Q.drop 1 ++ A) with
          | none => rw [hs] at h; cases h
          | some q =>
            obtain ⟨tx', n⟩ := q
            rw [hs] at h
            simp only [Tk.good.injEq] at h
            rw [Lx.strC_pre (Q.drop 1) hs (by rw [List.length_drop]; omega)]
            simp only [Tk.good.injEq]
            exact h
        · rename_i hs
          rw [if_neg hs]
          split at h
          · rename_i ho
            rw [if_pos ho]
            unfold Lx.opT at h ⊢
            simp only at h ⊢
            split at h
            · rename_i hc
              have h' := h
              simp only [Tk.good.injEq] at h'
              rw [Lx.run_pre (A := A) (by omega), if_pos hc, Lx.take_pre (A := A) (by omega)]
              exact h
            · cases h
          · rename_i ho
            rw [if_neg ho]
            split at h
            · rename_i hg
              rw [if_pos hg]
              unfold Lx.signT at h ⊢
              have h' := h
              simp only [Tk.good.injEq] at h'
              rw [hn0, Lx.nx_pre (A := A) (i := 1) (by simp; omega), Lx.take_pre (A := A) (by omega)]
              exact h
            · cases h

theorem Lx.pas_pre {A B : Lx.Bs} : ∀ (Q : Lx.Bs) (k : Nat) (cm : Option Nat) (n : Nat), Lx.pas k cm (Q ++ A) = .at n → n - k < Q.length → Lx.pas k cm (Q ++ B) = .at n := by
  intro Q
  induction Q with
  | nil => intro k cm n _ h; simp at h
  | cons b Q ih =>
    intro k cm n h hn
    have hle := Lx.pas_le _ _ _ _ h
    simp only [List.cons_append, List.length_cons] at h hn ⊢
    cases cm with
    | none =>
      rw [Lx.pas] at h ⊢
      split at h
      · rename_i hb
        rw [if_pos hb]
        have := Lx.pas_le _ _ _ _ h
        exact ih _ _ _ h (by omega)
      · rename_i hb
        rw [if_neg hb]
        split at h
        · rename_i hq
          rw [if_pos hq]
          have := Lx.pas_le _ _ _ _ h
          exact ih _ _ _ h (by omega)
        · rename_i hq
          rw [if_neg hq]; exact h
    | some c =>
      rw [Lx.pas] at h ⊢
      have hlt : ∀ {cm' : Option Nat}, Lx.pas (k + 1) cm' (Q ++ A) = .at n → n - (k + 1) < Q.length := fun h => by
        have := Lx.pas_le _ _ _ _ h; omega
      split at h
      · rename_i hb
        rw [if_pos hb]; exact ih _ _ _ h (hlt h)
      · rename_i hb
        rw [if_neg hb]; exact ih _ _ _ h (hlt h)

/-- Two texts that begin alike have the same pieces there. -/
theorem Lx.divs_pre {A B : Lx.Bs} (N : Nat) : ∀ (f g a : Nat) (Q : Lx.Bs) (line col name : Int) (many h : Nat), a + Q.length = N → (Q ++ B).length < g → h ≤ (Lx.divs f a (Q ++ A) line col name many).1.length →
    (∀ p ∈ (Lx.divs f a (Q ++ A) line col name many).1.take h, p.to < N) → (Lx.divs g a (Q ++ B) line col name many).1.take h = (Lx.divs f a (Q ++ A) line col name many).1.take h := by
  intro f
  induction f with
  | zero =>
    intro g a Q line col name many h _ _ hh _
    have : h = 0 := by simpa [Lx.divs] using hh
    subst this; simp
  | succ f ih =>
    intro g a Q line col name many h hN hg hh hp
    cases h with
    | zero => simp
    | succ h =>
      obtain ⟨g, rfl⟩ : ∃ g', g = g' + 1 := ⟨g - 1, by omega⟩
      rw [divs_succ] at hh hp
      rw [divs_succ f, divs_succ g]
      cases hpa : Lx.pas 0 none (Q ++ A) with
      | «open» n => rw [hpa] at hh; simp at hh
      | «at» n =>
        rw [hpa] at hh hp
        simp only at hh hp ⊢
        by_cases hne : (Q ++ A).drop n = []
        · rw [if_pos hne] at hh; simp at hh
        · rw [if_neg hne] at hh hp ⊢
          cases htk : Lx.tok (Lx.joined (a + n) name) ((Q ++ A).drop n) with
          | bad e => rw [htk] at hh; simp at hh
          | good k tx m =>
            rw [htk] at hh hp
            simp only at hh hp ⊢
            by_cases hmany : many < 6000
            · rw [if_pos hmany] at hh hp ⊢
              simp only [List.take_succ_cons, List.mem_cons, forall_eq_or_imp, List.length_cons] at hh hp ⊢
              have hfit := Lx.tok_fits hne htk
              have hnm : n + m < Q.length := by have := hp.1; omega
              have hpb : Lx.pas 0 none (Q ++ B) = .at n := Lx.pas_pre Q 0 none n hpa (by omega)
              have dA : (Q ++ A).drop n = Q.drop n ++ A := List.drop_append_of_le_length (by omega)
              have dB : (Q ++ B).drop n = Q.drop n ++ B := List.drop_append_of_le_length (by omega)
              rw [hpb]
              simp only
              have hlen : (Q.drop n).length = Q.length - n := List.length_drop
              rw [dA] at htk hne
              have htb := Lx.tok_pre (B := B) hne htk (by omega)
              have hneB : ¬ (Q ++ B).drop n = [] := by
                rw [dB]; intro e
                have := congrArg List.length e
                simp at this; omega
              rw [if_neg hneB, dB, htb]
              simp only
              rw [if_pos hmany]
              simp only [List.take_succ_cons]
              have t1 : (Q ++ B).take n = (Q ++ A).take n := Lx.take_pre (by omega)
              have t2 : (Q.drop n ++ B).take m = (Q.drop n ++ A).take m := Lx.take_pre (by omega)
              have d2A : (Q.drop n ++ A).drop m = (Q.drop n).drop m ++ A := List.drop_append_of_le_length (by omega)
              have d2B : (Q.drop n ++ B).drop m = (Q.drop n).drop m ++ B := List.drop_append_of_le_length (by omega)
              rw [t1, t2, d2B, dA, d2A]
              rw [dA, d2A] at hh hp
              congr 1
              have hl2 : ((Q.drop n).drop m).length = Q.length - n - m := by simp; omega
              refine ih g (a + n + m) ((Q.drop n).drop m) _ _ _ (many + 1) h (by omega) ?_ (by omega) hp.2
              have : (Q ++ B).length = Q.length + B.length := List.length_append
              rw [List.length_append, hl2]; omega
            · rw [if_neg hmany] at hh; simp at hh

theorem Lx.tok_bad {j : Bool} {l : Lx.Bs} {e : Int} (h : Lx.tok j l = .bad e) : e ≠ 0 := by
  unfold Lx.tok Lx.wordT Lx.primT Lx.numT Lx.opT Lx.strT Lx.signT at h
  simp only at h
  repeat' split at h
  all_goals first | (cases h; done) | (cases h; decide)
theorem Lx.divs_err (f : Nat) : ∀ (a : Nat) (l : Lx.Bs) (line col name : Int) (many : Nat) (er : Int) (q : Nat), (Lx.divs f a l line col name many).2 = some (er, q) → er ≠ 0 := by
  induction f with
  | zero => intro a l line col name many er q h; simp [Lx.divs] at h
  | succ f ih =>
    intro a l line col name many er q h
    rw [divs_succ] at h
    split at h
    · simp only [Option.some.injEq, Prod.mk.injEq] at h; omega
    · split at h
      · cases h
      · split at h
        · rename_i e he
          simp only [Option.some.injEq, Prod.mk.injEq] at h
          rw [← h.1]; exact Lx.tok_bad he
        · split at h
          · exact ih _ _ _ _ _ _ _ _ h
          · simp only [Option.some.injEq, Prod.mk.injEq] at h; omega
theorem Lx.divide_err {t : Lx.Bs} {er : Int} {q : Nat} (h : (Lx.divide t).2 = some (er, q)) : er ≠ 0 := by
  unfold Lx.divide at h
  split at h
  · exact Lx.divs_err _ _ _ _ _ _ _ _ _ h
  · simp only [Option.some.injEq, Prod.mk.injEq] at h; omega

/-- The same, of whole texts that can be divided. -/
theorem Lx.dv_pre {P A B : Lx.Bs} {l m : List Lx.Pc} {a b : Nat} (hl : Lx.dv (P ++ A) = (l, 0, a)) (hm : Lx.dv (P ++ B) = (m, 0, b)) {h : Nat} (hh : h ≤ l.length) (hp : ∀ p ∈ l.take h, p.to < P.length) :
    m.take h = l.take h := by
  have un2 : ∀ {T : Lx.Bs} {x : List Lx.Pc} {c : Nat}, Lx.dv T = (x, 0, c) → T.length ≤ 20000 ∧ x = (Lx.divs (T.length + 1) 0 T 1 1 0 0).1 := by
    intro T x c hd
    unfold Lx.dv at hd
    split at hd
    · rename_i hn
      simp only [Prod.mk.injEq] at hd
      unfold Lx.divide at hd hn
      split at hd
      · rename_i ht; exact ⟨ht, hd.1.symm⟩
      · rename_i ht; rw [if_neg ht] at hn; cases hn
    · rename_i er q hn
      simp only [Prod.mk.injEq] at hd
      exfalso
      -- an error's number is no 0
      have : er ≠ 0 := Lx.divide_err hn
      exact this hd.2.1
  obtain ⟨_, e1⟩ := un2 hl
  obtain ⟨_, e2⟩ := un2 hm
  rw [e1] at hh hp
  rw [e1, e2]
  exact Lx.divs_pre P.length _ _ 0 P 1 1 0 0 h (by omega) (by omega) hh hp

end Go.Proofs.YtogmealngeejmaaGreatDoor

/- The plain law of LexKept, whole. -/
namespace Go.Proofs.YtogmealngeejmaaGreatDoor
open Go Go.RowKit

/-- Behind the same bytes lines move by what the first one moves by, columns while the line is the first one. -/
theorem Lx.adv_shift : ∀ (D : Lx.Bs) (l c l' c' : Int), (Lx.adv D (l', c')).1 = (Lx.adv D (l, c)).1 + (l' - l) ∧
    (Lx.adv D (l', c')).2 = if (Lx.adv D (l, c)).1 = l then (Lx.adv D (l, c)).2 + (c' - c) else (Lx.adv D (l, c)).2 := by
  intro D
  induction D with
  | nil => intro l c l' c'; simp only [Lx.adv_nil, if_true]; omega
  | cons b D ih =>
    intro l c l' c'
    have e : ∀ p, Lx.adv (b :: D) p = Lx.adv D (Lx.adv1 p b) := fun _ => rfl
    rw [e, e]
    unfold Lx.adv1
    by_cases hb : b = 10
    · simp only [hb, if_true]
      have h := ih (l + 1) 1 (l' + 1) 1
      have hb := (Lx.adv_bound D (l + 1, 1)).1
      simp only at hb
      have hne : ¬ (Lx.adv D (l + 1, 1)).1 = l := by omega
      rw [if_neg hne]
      refine ⟨by omega, ?_⟩
      rw [h.2]; split <;> omega
    · simp only [hb, if_false]
      have h := ih l (c + 1) l' (c' + 1)
      refine ⟨h.1, ?_⟩
      rw [h.2]
      split <;> omega

theorem runOf_take {α : Type} (p : α → Bool) (l : List α) : ∃ h : Nat, runOf p l = h ∧ h ≤ l.length ∧ ∀ x ∈ l.take h, p x = true := by
  refine ⟨(l.takeWhile p).length, rfl, (List.takeWhile_prefix p).length_le, ?_⟩
  intro x hx
  have : l.take (l.takeWhile p).length = l.takeWhile p := (List.prefix_iff_eq_take.1 (List.takeWhile_prefix p)).symm
  rw [this] at hx
  have go : ∀ l : List α, x ∈ l.takeWhile p → p x = true := by
    intro l
    induction l with
    | nil => intro h; simp at h
    | cons y l ih =>
      intro h
      rw [List.takeWhile_cons] at h
      split at h
      · rename_i hy
        rcases List.mem_cons.1 h with rfl | h
        · exact hy
        · exact ih h
      · simp at h
  exact go l hx

theorem Lx.spelled_alike {x y : Tok} (h : Tok.alike x y = true) : Lx.spelled x = Lx.spelled y := by
  unfold Tok.alike at h
  simp only [Bool.and_eq_true, beq_iff_eq] at h
  unfold Lx.spelled
  rw [h.1, h.2]

/-- What a change that succeeds keeps. -/
structure Lx.Keeps (s : Lx.Bs) (frm tw : Int) (wi out : Lx.Bs) (l m : List Lx.Pc) (head tail : Nat) : Prop where
  ok : 0 ≤ frm ∧ frm ≤ tw ∧ tw ≤ s.length
  text : out = s.take frm.toNat ++ wi ++ s.drop tw.toNat
  len : (out.length : Int) = s.length + wi.length + frm - tw
  fits : head + tail ≤ l.length ∧ head + tail ≤ m.length
  same : m.take head = l.take head
  back : ∀ (k : Nat) (x y : Lx.Pc), k < tail → l[l.length - 1 - k]? = some x → m[m.length - 1 - k]? = some y → Tok.alike (tkOf x) (tkOf y) = true ∧
    y.line = x.line + ((Lx.at out (frm + wi.length)).1 - (Lx.at s tw).1) ∧
    y.col = if x.line = (Lx.at s tw).1 then x.col + ((Lx.at out (frm + wi.length)).2.1 - (Lx.at s tw).2.1) else x.col
  again : ∃ h t a, Lx.edit out frm (frm + wi.length) ((s.take tw.toNat).drop frm.toNat) = (s, h, t, 0, a)

theorem Lx.edit_bad {s wi : Lx.Bs} {frm tw : Int} (h : (Lx.edit s frm tw wi).2.2.2.1 ≠ 0) : (Lx.edit s frm tw wi).1 = [] ∧ (Lx.edit s frm tw wi).2.1 = 0 ∧ (Lx.edit s frm tw wi).2.2.1 = 0 := by
  revert h
  unfold Lx.edit
  split
  · intro _; exact ⟨rfl, rfl, rfl⟩
  · split
    · intro _; exact ⟨rfl, rfl, rfl⟩
    · split
      · intro _; exact ⟨rfl, rfl, rfl⟩
      · intro h; exact absurd rfl h

theorem Lx.edit_keeps {s wi : Lx.Bs} {frm tw : Int} (h : (Lx.edit s frm tw wi).2.2.2.1 = 0) : ∃ (out : Lx.Bs) (l m : List Lx.Pc) (head tail a b : Nat),
    Lx.edit s frm tw wi = (out, (head : Int), (tail : Int), 0, 0) ∧ Lx.dv s = (l, 0, a) ∧ Lx.dv out = (m, 0, b) ∧ Lx.Keeps s frm tw wi out l m head tail := by
  have hE : Lx.edit s frm tw wi = (if frm < 0 ∨ tw < frm ∨ (s.length : Int) < tw then ([], 0, 0, 1, 0)
    else if (Lx.dv s).2.1 ≠ 0 then ([], 0, 0, (Lx.dv s).2.1, (Lx.dv s).2.2)
    else if (Lx.dv (s.take frm.toNat ++ wi ++ s.drop tw.toNat)).2.1 ≠ 0 then ([], 0, 0, (Lx.dv (s.take frm.toNat ++ wi ++ s.drop tw.toNat)).2.1, (Lx.dv (s.take frm.toNat ++ wi ++ s.drop tw.toNat)).2.2)
    else (s.take frm.toNat ++ wi ++ s.drop tw.toNat, runOf (fun p => decide ((p.to : Int) < frm)) (Lx.dv s).1,
      runOf (Lx.stays s.length (s.take frm.toNat ++ wi ++ s.drop tw.toNat).length tw) (Lx.ends2 (Lx.dv s).1 (Lx.dv (s.take frm.toNat ++ wi ++ s.drop tw.toNat)).1 (runOf (fun p => decide ((p.to : Int) < frm)) (Lx.dv s).1).toNat), 0, 0)) := rfl
  rw [hE] at h ⊢
  by_cases h0 : frm < 0 ∨ tw < frm ∨ (s.length : Int) < tw
  · rw [if_pos h0] at h; exact absurd h (by decide)
  · rw [if_neg h0] at h ⊢
    by_cases h1 : (Lx.dv s).2.1 ≠ 0
    · rw [if_pos h1] at h; exact absurd h h1
    · rw [if_neg h1] at h ⊢
      obtain ⟨out, hout⟩ : ∃ out, out = s.take frm.toNat ++ wi ++ s.drop tw.toNat := ⟨_, rfl⟩
      rw [← hout] at h ⊢
      by_cases h2 : (Lx.dv out).2.1 ≠ 0
      · rw [if_pos h2] at h; exact absurd h h2
      · rw [if_neg h2]
        have h1' := Decidable.not_not.1 h1
        have h2' := Decidable.not_not.1 h2
        obtain ⟨⟨l, e1, a⟩, hl⟩ : ∃ r, Lx.dv s = r := ⟨_, rfl⟩
        obtain ⟨⟨m, e2, b⟩, hm⟩ : ∃ r, Lx.dv out = r := ⟨_, rfl⟩
        rw [hl] at h1' ⊢
        rw [hm] at h2' ⊢
        simp only at h1' h2' ⊢
        subst h1'; subst h2'
        obtain ⟨head, hh, hhl, hhp⟩ := runOf_take (fun p : Lx.Pc => decide ((p.to : Int) < frm)) l
        rw [hh]
        simp only [Int.toNat_natCast]
        obtain ⟨tail, ht, htl, htp⟩ := runOf_take (Lx.stays s.length out.length tw) (Lx.ends2 l m head)
        rw [ht]
        rw [Lx.ends2_len] at htl
        have hlo : (out.length : Int) = s.length + wi.length + frm - tw := by
          rw [hout]; simp only [List.length_append, List.length_take, List.length_drop]; omega
        have hP : s = s.take frm.toNat ++ s.drop frm.toNat := (List.take_append_drop _ _).symm
        have hO : out = s.take frm.toNat ++ (wi ++ s.drop tw.toNat) := by rw [hout, List.append_assoc]
        have hPl : (s.take frm.toNat).length = frm.toNat := by rw [List.length_take]; omega
        have hsame : m.take head = l.take head := by
          refine Lx.dv_pre (P := s.take frm.toNat) (A := s.drop frm.toNat) (B := wi ++ s.drop tw.toNat) (a := a) (b := b) (by rw [← hP]; exact hl) (by rw [← hO]; exact hm) hhl ?_
          intro p hp
          have := hhp p hp
          simp only [decide_eq_true_eq] at this
          rw [hPl]; omega
        have hhm : head ≤ m.length := by
          have := congrArg List.length hsame
          simp only [List.length_take] at this; omega
        refine ⟨out, l, m, head, tail, a, b, rfl, rfl, hm, ⟨by omega, hout, hlo, by omega, hsame, ?_, ?_⟩⟩
        · intro k x y hk hx hy
          have hxy := Lx.ends2_get (old := l) (now := m) (h := head) (k := k) (by omega) (by omega) hx hy
          have hst := htp (x, y) (by
            rw [List.mem_iff_getElem?]
            exact ⟨k, by rw [List.getElem?_take_of_lt hk]; exact hxy⟩)
          unfold Lx.stays at hst
          simp only [Bool.and_eq_true, beq_iff_eq, Bool.not_eq_true', decide_eq_false_iff_not] at hst
          obtain ⟨⟨hal, hto⟩, hfr⟩ := hst
          have hxm : x ∈ (Lx.dv s).1 := by rw [hl]; exact List.mem_of_getElem? hx
          have hym : y ∈ (Lx.dv out).1 := by rw [hm]; exact List.mem_of_getElem? hy
          have hxs := (Lx.dv_spell hxm).1
          have hys := (Lx.dv_spell hym).1
          rw [Lx.spelled_alike hal] at hxs
          have hpx := Lx.dv_place s x hxm
          have hpy := Lx.dv_place out y hym
          have hxt := (Lx.dv_to s x hxm).2
          have hyt := (Lx.dv_to out y hym).2
          have hft := Lx.dv_from s x hxm
          refine ⟨hal, ?_⟩
          -- what stands between
          obtain ⟨d, hd⟩ : ∃ d : Nat, (x.frm : Int) = tw + d := ⟨(x.frm - tw).toNat, by omega⟩
          have hd2 : (y.frm : Int) = frm + wi.length + d := by omega
          have t1 : s.take x.frm = s.take tw.toNat ++ (s.drop tw.toNat).take d := by
            rw [show x.frm = tw.toNat + d by omega, List.take_add]
          have hol : (s.take frm.toNat ++ wi).length = (frm + wi.length).toNat := by simp only [List.length_append, hPl]; omega
          have t2 : out.take y.frm = out.take (frm + wi.length).toNat ++ (s.drop tw.toNat).take d := by
            rw [show y.frm = (frm + wi.length).toNat + d by omega, List.take_add, ← hol, hout, List.drop_left]
          have a1 : Lx.at s tw = ((Lx.adv (s.take tw.toNat) (1, 1)).1, (Lx.adv (s.take tw.toNat) (1, 1)).2, 0) := by unfold Lx.at; rw [if_pos (by omega)]
          have a2 : Lx.at out (frm + wi.length) = ((Lx.adv (out.take (frm + wi.length).toNat) (1, 1)).1, (Lx.adv (out.take (frm + wi.length).toNat) (1, 1)).2, 0) := by unfold Lx.at; rw [if_pos (by omega)]
          rw [a1, a2]
          rw [t1, Lx.adv_append] at hpx
          rw [t2, Lx.adv_append] at hpy
          obtain ⟨⟨l1, c1⟩, hq1⟩ : ∃ q, Lx.adv (s.take tw.toNat) (1, 1) = q := ⟨_, rfl⟩
          obtain ⟨⟨l2, c2⟩, hq2⟩ : ∃ q, Lx.adv (out.take (frm + wi.length).toNat) (1, 1) = q := ⟨_, rfl⟩
          rw [hq1] at hpx ⊢
          rw [hq2] at hpy ⊢
          have hs := Lx.adv_shift ((s.drop tw.toNat).take d) l1 c1 l2 c2
          rw [hpx, hpy] at hs
          exact hs
        · have hol : (s.take frm.toNat ++ wi).length = (frm + wi.length).toNat := by simp only [List.length_append, hPl]; omega
          have b1 : out.take frm.toNat = s.take frm.toNat := by rw [hO, List.take_append_of_le_length (by omega), List.take_take, Nat.min_self]
          have b2 : out.drop (frm + wi.length).toNat = s.drop tw.toNat := by rw [← hol, hout, List.drop_left]
          have b3 : out.take frm.toNat ++ (s.take tw.toNat).drop frm.toNat ++ out.drop (frm + wi.length).toNat = s := by
            rw [b1, b2]
            have : s.take frm.toNat = (s.take tw.toNat).take frm.toNat := by rw [List.take_take, Nat.min_eq_left (by omega)]
            rw [this, List.take_append_drop, List.take_append_drop]
          unfold Lx.edit
          rw [if_neg (by omega), b3, hl, hm, if_neg (by simp), if_neg (by simp)]
          exact ⟨_, _, _, rfl⟩

end Go.Proofs.YtogmealngeejmaaGreatDoor
