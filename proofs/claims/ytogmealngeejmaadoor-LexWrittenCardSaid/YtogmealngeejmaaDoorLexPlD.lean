/- What is read is right. -/
import Derived.Test.YtogmealngeejmaaDoorLexPlC
namespace Go.Proofs.YtogmealngeejmaaDoor
open Go Go.RowKit

theorem Lx.tok_first {j : Bool} {l : Lx.Bs} {k : Int} {tx : Lx.Bs} {m : Nat} (h : Lx.tok j l = .good k tx m) : Lx.nx l 0 ≠ 34 ∧ Lx.blank (Lx.nx l 0) = false := by
  have no : ∀ b : UInt8, Lx.nx l 0 = b → Lx.letter b = false → (((b.toNat : Int) == 95) = false) → Lx.digit b = false → (((b.toNat : Int) == 39) = false) → Lx.isop b = false → Lx.issign b = false → False := by
    intro b hb h1 h2 h3 h4 h5 h6
    unfold Lx.tok at h
    rw [hb] at h
    simp [h1, h2, h3, h4, h5, h6] at h
  refine ⟨fun e => no 34 e (by decide) (by decide) (by decide) (by decide) (by decide) (by decide), ?_⟩
  cases hb : Lx.blank (Lx.nx l 0) with
  | false => rfl
  | true =>
    exfalso
    simp only [Lx.blank, Bool.or_eq_true, beq_iff_eq] at hb
    rcases hb with (hb | hb) | hb
    · have e : Lx.nx l 0 = 32 := (byte_is (n := 32) (by omega)).trans rfl
      exact no 32 e (by decide) (by decide) (by decide) (by decide) (by decide) (by decide)
    · have e : Lx.nx l 0 = 9 := (byte_is (n := 9) (by omega)).trans rfl
      exact no 9 e (by decide) (by decide) (by decide) (by decide) (by decide) (by decide)
    · have e : Lx.nx l 0 = 10 := (byte_is (n := 10) (by omega)).trans rfl
      exact no 10 e (by decide) (by decide) (by decide) (by decide) (by decide) (by decide)

theorem Lx.pas_tok {j : Bool} {l : Lx.Bs} {k : Int} {tx : Lx.Bs} {m : Nat} (h : Lx.tok j l = .good k tx m) : Lx.pas 0 none l = .at 0 := by
  obtain ⟨h1, h2⟩ := Lx.tok_first h
  refine Lx.pas_stop h1 ?_
  rintro b l' rfl
  exact h2

theorem Lx.pas_nil : Lx.pas 0 none [] = .at 0 := by simp [Lx.pas]

/-- A text that is one token is divided into it. -/
theorem Lx.dv_one {tx : Lx.Bs} {k : Int} {tx' : Lx.Bs} (h0 : tx ≠ []) (hl : tx.length ≤ 20000) (h : Lx.tok false tx = .good k tx' tx.length) : Lx.dv tx = ([⟨k, tx', 1, 1, 0, tx.length⟩], 0, 0) := by
  have hd : Lx.divide tx = ([⟨k, tx', 1, 1, 0, tx.length⟩], none) := by
    unfold Lx.divide
    rw [if_pos hl, divs_succ, Lx.pas_tok h]
    simp only [List.drop_zero, List.take_zero]
    rw [if_neg h0, show Lx.joined (0 + 0) 0 = false from rfl, h]
    simp only
    rw [if_pos (by omega)]
    have hlen : 1 ≤ tx.length := List.length_pos_iff.2 h0
    obtain ⟨f, hf⟩ : ∃ f, tx.length = f + 1 := ⟨tx.length - 1, by omega⟩
    have hz : ∀ (a : Nat) (line col name : Int) (many : Nat), Lx.divs tx.length a (tx.drop tx.length) line col name many = ([], none) := by
      intro a line col name many
      rw [hf, List.drop_eq_nil_of_le (by omega), divs_succ, Lx.pas_nil]
      simp
    rw [hz]
    simp [Lx.adv]
  unfold Lx.dv
  rw [hd]

theorem Lx.tok_kind {j : Bool} {l : Lx.Bs} {k : Int} {tx : Lx.Bs} {m : Nat} (h : Lx.tok j l = .good k tx m) : 1 ≤ k := by
  unfold Lx.tok Lx.wordT Lx.primT Lx.numT Lx.opT Lx.strT Lx.signT at h
  simp only at h
  repeat' split at h
  all_goals first | (cases h; done) | skip
  all_goals (cases h; try decide)
  all_goals (have := Lx.colon_or l (Lx.run Lx.wordy l : Int); omega)

theorem Lx.divs_tok (T : Lx.Bs) (f : Nat) : ∀ (a : Nat) (l : Lx.Bs) (line col name : Int) (many : Nat), l = T.drop a →
    ∀ p ∈ (Lx.divs f a l line col name many).1, ∃ j m, T.drop p.frm ≠ [] ∧ p.to = p.frm + m ∧ Lx.tok j (T.drop p.frm) = .good p.kind p.text m := by
  induction f with
  | zero => intro a l line col name many _ p hp; simp [Lx.divs] at hp
  | succ f ih =>
    intro a l line col name many hl p hp
    rw [divs_succ] at hp
    split at hp
    · simp at hp
    · rename_i n hn
      split at hp
      · simp at hp
      · rename_i hne
        split at hp
        · simp at hp
        · rename_i k tx m htk
          split at hp
          · simp only [List.mem_cons] at hp
            have e : T.drop (a + n) = l.drop n := by rw [hl, List.drop_drop]
            rcases hp with rfl | hp
            · exact ⟨_, m, by simpa only [e] using hne, rfl, by simpa only [e] using htk⟩
            · exact ih _ _ _ _ _ _ (by rw [← e, List.drop_drop]) p hp
          · simp at hp

theorem Lx.dv_tok (t : Lx.Bs) : ∀ p ∈ (Lx.dv t).1, t.length ≤ 20000 ∧ ∃ j m, t.drop p.frm ≠ [] ∧ p.to = p.frm + m ∧ Lx.tok j (t.drop p.frm) = .good p.kind p.text m := by
  intro p hp
  unfold Lx.dv at hp
  split at hp
  · unfold Lx.divide at hp
    split at hp
    · rename_i h; exact ⟨h, Lx.divs_tok t _ 0 t 1 1 0 0 rfl p hp⟩
    · simp at hp
  · simp at hp

theorem Lx.adv_col1 : ∀ (l : Lx.Bs) (p : Int × Int), 1 ≤ p.2 → 1 ≤ (Lx.adv l p).2 := by
  intro l
  induction l with
  | nil => intro p h; exact h
  | cons b l ih => intro p h; exact ih _ (by unfold Lx.adv1; split <;> simp <;> omega)

theorem Lx.dv_right {t : Lx.Bs} {p : Lx.Pc} (hp : p ∈ (Lx.dv t).1) : Lx.right (tkOf p) = true := by
  obtain ⟨ht, j, m, hne, hto, htok⟩ := Lx.dv_tok t p hp
  have hpl := Lx.dv_place t p hp
  have hft := Lx.dv_from t p hp
  have htl := (Lx.dv_to t p hp).2
  have b1 := Lx.adv_bound (t.take p.frm) (1, 1)
  have b2 := Lx.adv_col (t.take p.frm) (1, 1) (by decide)
  have b3 := Lx.adv_col1 (t.take p.frm) (1, 1) (by decide)
  rw [hpl] at b1 b2 b3
  simp only [List.length_take] at b1 b2 b3
  have hs := Lx.tok_spelled hne htok p.line p.col
  unfold Lx.right tkOf
  simp only
  rw [if_neg (by
    intro h
    refine h.2 ⟨?_, ?_⟩
    · simp only [Lx.inside, Bool.and_eq_true, decide_eq_true_eq]; omega
    · simp only [Lx.inside, Bool.and_eq_true, decide_eq_true_eq]; omega)]
  by_cases h9 : p.kind = 9
  · rw [if_pos h9, hs.2.2.2 h9]; rfl
  · rw [if_neg h9]
    by_cases h6 : p.kind = 6
    · rw [if_pos h6, hs.2.1 h6]; rfl
    · rw [if_neg h6]
      have hk := Lx.tok_kind htok
      have hfit := Lx.tok_fits hne htok
      have ha := Lx.tok_alone hne htok h6 h9
      rw [← hs.2.2.1 h6] at ha
      have hlen : p.text.length = m := by rw [hs.2.2.1 h6, List.length_take]; omega
      have h1 := Lx.dv_one (tx := p.text) (by intro e; rw [e] at hlen; simp at hlen; omega) (by omega) (by rw [hlen]; exact ha)
      have : Lx.kind p.text = p.kind := by unfold Lx.kind; rw [h1]; simp
      rw [this]
      simp
      omega

end Go.Proofs.YtogmealngeejmaaDoor
