/- The place of a piece is that of its first byte, told from its end and its spelling. -/
import Derived.Test.YtogmealngeejmaaDoorLexPlD
namespace Go.Proofs.YtogmealngeejmaaDoor
open Go Go.RowKit

theorem idxOf_get {α : Type} {p : α → Bool} {l : List α} (h : ¬ idxOf p l < 0) : ∃ (k : Nat) (x : α), idxOf p l = k ∧ l[k]? = some x ∧ p x = true ∧ ∀ (j : Nat) (y : α), j < k → l[j]? = some y → p y = false := by
  unfold idxOf at h ⊢
  cases hf : l.findIdx? p with
  | none => rw [hf] at h; simp at h
  | some k =>
    rw [List.findIdx?_eq_some_iff_getElem] at hf
    obtain ⟨hk, hp, hj⟩ := hf
    refine ⟨k, l[k], rfl, by simp, hp, fun j y hjk hy => ?_⟩
    have := hj j hjk
    obtain ⟨_, rfl⟩ := List.getElem?_eq_some_iff.1 hy
    simpa using this

theorem Lx.dv_spell {t : Lx.Bs} {p : Lx.Pc} (hp : p ∈ (Lx.dv t).1) : p.frm + (Lx.spelled (tkOf p)).length = p.to ∧ Lx.at t ((p.to : Int) - (Lx.spelled (tkOf p)).length) = (p.line, p.col, 0) := by
  obtain ⟨ht, j, m, hne, hto, htok⟩ := Lx.dv_tok t p hp
  have hpl := Lx.dv_place t p hp
  have htl := (Lx.dv_to t p hp).2
  have hs := (Lx.tok_spelled hne htok p.line p.col).1
  have hfit := Lx.tok_fits hne htok
  rw [List.length_drop] at hfit
  have hl : (Lx.spelled (tkOf p)).length = m := by
    show (Lx.spelled ⟨p.kind, p.text, p.line, p.col⟩).length = m
    rw [hs, List.length_take, List.length_drop]; omega
  refine ⟨by omega, ?_⟩
  rw [hl, show (p.to : Int) - (m : Int) = (p.frm : Int) by omega]
  unfold Lx.at
  rw [if_pos ⟨by omega, by omega⟩, Int.toNat_natCast, hpl]

end Go.Proofs.YtogmealngeejmaaDoor
