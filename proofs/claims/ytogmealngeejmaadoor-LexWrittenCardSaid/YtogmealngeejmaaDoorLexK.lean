/- The lexer: reading a token of the class that its first byte begins. -/
import Derived.Test.YtogmealngeejmaaDoorLexJ
namespace Go.Proofs.YtogmealngeejmaaDoor
open Go Go.RowKit

theorem RdPost.renamed {r : Nat} {t : ByteArray} {a : Nat} {l : Lx.Bs} {line col name : Int} {w : World} {x : Lx.Tk} {e : Ending} {w' : World} (h : RdPost r t a l line col (fun _ _ => name) w x e w')
    (hk : ∀ k tx n, x = .good k tx n → k ≠ 1) : RdPost r t a l line col (fun k n => if k = 1 then ((a + n : Nat) : Int) else name) w x e w' := by
  refine ⟨h.1, ?_⟩
  cases x with
  | bad er => exact h.2
  | good k tx n =>
    have := h.2
    simp only [if_neg (hk k tx n rfl)]
    exact this

theorem primT_kind {l : Lx.Bs} : ∀ k tx n, Lx.primT l = .good k tx n → k ≠ 1 := by
  intro k tx n h; unfold Lx.primT at h; simp only at h; split at h
  · simp only [Lx.Tk.good.injEq] at h; omega
  · cases h
theorem numT_kind {l : Lx.Bs} : ∀ k tx n, Lx.numT l = .good k tx n → k ≠ 1 := by
  intro k tx n h; unfold Lx.numT at h; simp only at h; split at h
  · simp only [Lx.Tk.good.injEq] at h; omega
  · cases h
theorem opT_kind {l : Lx.Bs} : ∀ k tx n, Lx.opT l = .good k tx n → k ≠ 1 := by
  intro k tx n h; unfold Lx.opT at h; simp only at h; split at h
  · simp only [Lx.Tk.good.injEq] at h; omega
  · cases h
theorem strT_kind {l : Lx.Bs} : ∀ k tx n, Lx.strT l = .good k tx n → k ≠ 1 := by
  intro k tx n h; unfold Lx.strT at h; split at h
  · simp only [Lx.Tk.good.injEq] at h; omega
  · cases h
theorem signT_kind {j : Bool} {l : Lx.Bs} : ∀ k tx n, Lx.signT j l = .good k tx n → k ≠ 1 := by
  intro k tx n h; unfold Lx.signT at h; simp only [Lx.Tk.good.injEq] at h
  have := h.1; split at this <;> omega

/-- Reading a token, by the class. -/
theorem read_c {w : World} {r : Nat} {t : ByteArray} {a : Nat} {l : Lx.Bs} {line col name : Int} (h : RdL w r t a l line col name) (hne : l ≠ []) (k : Nat) (hk : clsIdx (Lx.nx l 0) = k) :
    Calls Tryd.prog (clsG k) #[.pointer (some ⟨r, 0, none⟩)] w (RdPost r t a l line col (fun k n => if k = 1 then ((a + n : Nat) : Int) else name) w (Lx.tok (Lx.joined a name) l)) := by
  unfold clsIdx at hk
  simp only [clsP] at hk
  unfold Lx.tok
  split at hk
  · rename_i hb
    obtain rfl : k = 0 := by omega
    rw [if_pos hb]; exact word_c h
  · rename_i hb0
    rw [if_neg hb0]
    split at hk
    · rename_i hb
      obtain rfl : k = 1 := by omega
      rw [if_pos hb]; exact (prim_c h hne).mono fun e w' hp => hp.renamed primT_kind
    · rename_i hb1
      rw [if_neg hb1]
      split at hk
      · rename_i hb
        obtain rfl : k = 2 := by omega
        rw [if_pos hb]; exact (number_c h).mono fun e w' hp => hp.renamed numT_kind
      · rename_i hb2
        rw [if_neg hb2]
        split at hk
        · rename_i hb
          obtain rfl : k = 3 := by omega
          rw [if_pos hb]; exact (str_c h hne).mono fun e w' hp => hp.renamed strT_kind
        · rename_i hb3
          rw [if_neg hb3]
          split at hk
          · rename_i hb
            obtain rfl : k = 4 := by omega
            rw [if_pos hb]; exact (op_c h).mono fun e w' hp => hp.renamed opT_kind
          · rename_i hb4
            rw [if_neg hb4]
            split at hk
            · rename_i hb
              obtain rfl : k = 5 := by omega
              rw [if_pos hb]; exact (sign_c h hne).mono fun e w' hp => hp.renamed signT_kind
            · omega

theorem tok_none {l : Lx.Bs} {j : Bool} (hk : clsIdx (Lx.nx l 0) < 0) : Lx.tok j l = .bad 10 := by
  unfold clsIdx at hk
  simp only [clsP] at hk
  unfold Lx.tok
  (repeat' split at hk) <;> first | omega | simp_all

theorem clsIdx_lt (b : UInt8) : clsIdx b < 6 := by unfold clsIdx; (repeat' split) <;> omega
theorem clsIdx_ge (b : UInt8) : -1 ≤ clsIdx b := by unfold clsIdx; (repeat' split) <;> omega

theorem clsG_enters (k : Nat) : Proofs.Enters Tryd.prog (clsG k) := by
  match k with
  | 0 => exact Proofs.enters_of Tryd.func66 (by kernel_rfl) rfl
  | 1 => exact Proofs.enters_of Tryd.func68 (by kernel_rfl) rfl
  | 2 => exact Proofs.enters_of Tryd.func70 (by kernel_rfl) rfl
  | 3 => exact Proofs.enters_of Tryd.func72 (by kernel_rfl) rfl
  | 4 => exact Proofs.enters_of Tryd.func73 (by kernel_rfl) rfl
  | (n + 5) => exact Proofs.enters_of Tryd.func75 (by kernel_rfl) rfl

end Go.Proofs.YtogmealngeejmaaDoor
