/- The plain law of places: pieces stand one behind the other, each at its place. -/
import Derived.Test.YtogmealngeejmaaDoorLexEdA
namespace Go.Proofs.YtogmealngeejmaaDoor
open Go Go.RowKit

/-- One place is ahead of another. -/
def Lx.ahead (p q : Int × Int) : Prop := p.1 < q.1 ∨ (p.1 = q.1 ∧ p.2 < q.2)
theorem Lx.ahead.trans {p q r : Int × Int} (h : Lx.ahead p q) (k : Lx.ahead q r) : Lx.ahead p r := by
  unfold Lx.ahead at *; omega
theorem Lx.ahead1 (p : Int × Int) (b : UInt8) : Lx.ahead p (Lx.adv1 p b) := by
  unfold Lx.ahead Lx.adv1; split <;> simp <;> omega
theorem Lx.adv_ahead : ∀ (s : Lx.Bs) (p : Int × Int), s ≠ [] → Lx.ahead p (Lx.adv s p) := by
  intro s
  induction s with
  | nil => intro p h; exact absurd rfl h
  | cons b s ih =>
    intro p _
    have e : Lx.adv (b :: s) p = Lx.adv s (Lx.adv1 p b) := rfl
    rw [e]
    by_cases hs : s = []
    · subst hs; exact Lx.ahead1 p b
    · exact (Lx.ahead1 p b).trans (ih _ hs)

theorem Lx.divs_from (f : Nat) : ∀ (a : Nat) (l : Lx.Bs) (line col name : Int) (many : Nat), ∀ p ∈ (Lx.divs f a l line col name many).1, a ≤ p.frm ∧ p.frm < p.to := by
  induction f with
  | zero => intro a l line col name many p hp; simp [Lx.divs] at hp
  | succ f ih =>
    intro a l line col name many p hp
    rw [divs_succ] at hp
    split at hp
    · simp at hp
    · split at hp
      · simp at hp
      · rename_i hne
        split at hp
        · simp at hp
        · rename_i k tx m htk
          have hm := Lx.tok_fits hne htk
          split at hp
          · simp only [List.mem_cons] at hp
            rcases hp with rfl | hp
            · simp only; omega
            · have := ih _ _ _ _ _ _ p hp; omega
          · simp at hp

theorem Lx.divs_pair (f : Nat) : ∀ (a : Nat) (l : Lx.Bs) (line col name : Int) (many : Nat), (Lx.divs f a l line col name many).1.Pairwise fun x y => x.to ≤ y.frm := by
  induction f with
  | zero => intro a l line col name many; simp [Lx.divs]
  | succ f ih =>
    intro a l line col name many
    rw [divs_succ]
    split
    · simp
    · split
      · simp
      · split
        · simp
        · split
          · simp only [List.pairwise_cons]
            exact ⟨fun y hy => (Lx.divs_from _ _ _ _ _ _ _ y hy).1, ih _ _ _ _ _ _⟩
          · simp

theorem Lx.divs_place (T : Lx.Bs) (f : Nat) : ∀ (a : Nat) (l : Lx.Bs) (line col name : Int) (many : Nat), l = T.drop a → a ≤ T.length → Lx.adv (T.take a) (1, 1) = (line, col) →
    ∀ p ∈ (Lx.divs f a l line col name many).1, Lx.adv (T.take p.frm) (1, 1) = (p.line, p.col) := by
  induction f with
  | zero => intro a l line col name many _ _ _ p hp; simp [Lx.divs] at hp
  | succ f ih =>
    intro a l line col name many hl ha hadv p hp
    rw [divs_succ] at hp
    have step : ∀ k, Lx.adv (T.take (a + k)) (1, 1) = Lx.adv (l.take k) (line, col) := by
      intro k; rw [List.take_add, Lx.adv_append, hadv, hl]
    split at hp
    · simp at hp
    · rename_i n hn
      have hnl := Lx.pas_le l 0 none n hn
      split at hp
      · simp at hp
      · rename_i hne
        split at hp
        · simp at hp
        · rename_i k tx m htk
          have hm := Lx.tok_fits hne htk
          rw [List.length_drop] at hm
          have hll : l.length = T.length - a := by rw [hl, List.length_drop]
          split at hp
          · simp only [List.mem_cons] at hp
            rcases hp with rfl | hp
            · exact step n
            · refine ih (a + n + m) _ _ _ _ _ ?_ (by omega) ?_ p hp
              · rw [hl, List.drop_drop, List.drop_drop, Nat.add_assoc]
              · rw [Nat.add_assoc, step (n + m), List.take_add, Lx.adv_append]
          · simp at hp

theorem Lx.dv_pair (t : Lx.Bs) : (Lx.dv t).1.Pairwise fun x y => x.to ≤ y.frm := by
  unfold Lx.dv
  split
  · unfold Lx.divide
    split
    · exact Lx.divs_pair _ _ _ _ _ _ _
    · simp
  · simp
theorem Lx.dv_from (t : Lx.Bs) : ∀ p ∈ (Lx.dv t).1, p.frm < p.to := by
  intro p hp
  unfold Lx.dv at hp
  split at hp
  · unfold Lx.divide at hp
    split at hp
    · exact (Lx.divs_from _ _ _ _ _ _ _ p hp).2
    · simp at hp
  · simp at hp
theorem Lx.dv_place (t : Lx.Bs) : ∀ p ∈ (Lx.dv t).1, Lx.adv (t.take p.frm) (1, 1) = (p.line, p.col) := by
  intro p hp
  unfold Lx.dv at hp
  split at hp
  · unfold Lx.divide at hp
    split at hp
    · exact Lx.divs_place t _ 0 t 1 1 0 0 rfl (Nat.zero_le _) rfl p hp
    · simp at hp
  · simp at hp

/-- Two neighbours: their ends and their places increase. -/
theorem Lx.dv_next {t : Lx.Bs} {i : Nat} {x y : Lx.Pc} (hx : (Lx.dv t).1[i]? = some x) (hy : (Lx.dv t).1[i + 1]? = some y) : x.to < y.to ∧ x.to ≤ y.frm ∧ Lx.ahead (x.line, x.col) (y.line, y.col) := by
  obtain ⟨hi, rfl⟩ := List.getElem?_eq_some_iff.1 hx
  obtain ⟨hj, rfl⟩ := List.getElem?_eq_some_iff.1 hy
  have h1 := List.pairwise_iff_getElem.1 (Lx.dv_pair t) i (i + 1) hi hj (by omega)
  have hxm := List.getElem_mem hi
  have hym := List.getElem_mem hj
  have h2 := Lx.dv_from t _ hxm
  have h3 := Lx.dv_from t _ hym
  have h4 := (Lx.dv_to t _ hym).2
  refine ⟨by omega, h1, ?_⟩
  rw [← Lx.dv_place t _ hxm, ← Lx.dv_place t _ hym]
  generalize (Lx.dv t).1[i] = x at *
  generalize (Lx.dv t).1[i + 1] = y at *
  obtain ⟨d, hd⟩ : ∃ d, y.frm = x.frm + d := ⟨y.frm - x.frm, by omega⟩
  rw [hd, List.take_add, Lx.adv_append]
  refine Lx.adv_ahead _ _ ?_
  intro e
  have := congrArg List.length e
  simp at this
  omega

end Go.Proofs.YtogmealngeejmaaDoor
