import Derived.Test.YtogmealngeejmaaGreatDoorJoined1
/- What dividing a text comes to, over lists of bytes: no program in sight. -/
namespace Go.Proofs.YtogmealngeejmaaGreatDoor
namespace Lx

/-- The token that begins here; j: a dot would join. -/
def tok (j : Bool) (l : Bs) : Tk :=
  if letter (nx l 0) = true then wordT l
  else if ((nx l 0).toNat : Int) == 95 then primT l
  else if digit (nx l 0) = true then numT l
  else if ((nx l 0).toNat : Int) == 39 then strT l
  else if isop (nx l 0) = true then opT l
  else if issign (nx l 0) = true then signT j l
  else .bad 10

/-- A token with its place and the indices of its bytes. -/
structure Pc where
  kind : Int
  text : Bs
  line : Int
  col : Int
  frm : Nat
  to : Nat

/-- A dot here would join a name. -/
def joined (a : Nat) (name : Int) : Bool := decide (0 < (a : Int)) && (name == (a : Int))

/-- The pieces from a place on, and what is wrong behind them. -/
def divs : Nat → Nat → Bs → Int → Int → Int → Nat → List Pc × Option (Int × Nat)
  | 0, _, _, _, _, _, _ => ([], none)
  | f + 1, a, l, line, col, name, many =>
    match pas 0 none l with
    | .open n => ([], some (11, a + n))
    | .at n =>
      if l.drop n = [] then ([], none)
      else match tok (joined (a + n) name) (l.drop n) with
        | .bad e => ([], some (e, a + n))
        | .good k tx m =>
          if many < 6000 then
            ((⟨k, tx, (adv (l.take n) (line, col)).1, (adv (l.take n) (line, col)).2, a + n, a + n + m⟩ : Pc) ::
              (divs f (a + n + m) ((l.drop n).drop m) (adv ((l.drop n).take m) (adv (l.take n) (line, col))).1 (adv ((l.drop n).take m) (adv (l.take n) (line, col))).2 (if k = 1 then ((a + n + m : Nat) : Int) else name) (many + 1)).1,
             (divs f (a + n + m) ((l.drop n).drop m) (adv ((l.drop n).take m) (adv (l.take n) (line, col))).1 (adv ((l.drop n).take m) (adv (l.take n) (line, col))).2 (if k = 1 then ((a + n + m : Nat) : Int) else name) (many + 1)).2)
          else ([], some (2, a + n))

def divide (t : Bs) : List Pc × Option (Int × Nat) := if t.length ≤ 20000 then divs (t.length + 1) 0 t 1 1 0 0 else ([], some (2, 0))

theorem run_pos {p : UInt8 → Bool} {l : Bs} (h0 : l ≠ []) (h : p (nx l 0) = true) : 1 ≤ run p l := by
  cases l with
  | nil => exact absurd rfl h0
  | cons b l => simp [nx] at h; simp [run, h]
theorem strC_le {l : Bs} : ∀ {tx : Bs} {n : Nat}, strC l = some (tx, n) → 1 ≤ n ∧ n ≤ l.length := by
  induction hl : l.length using Nat.strongRecOn generalizing l with
  | _ k ih =>
    intro tx n h
    match l, h with
    | [b], h =>
      rw [strC] at h
      split at h
      · simp at h; obtain ⟨_, rfl⟩ := h; simp at hl; omega
      · cases h
    | b :: b' :: l', h =>
      rw [strC] at h
      simp only [List.length_cons] at hl
      split at h
      · split at h
        · obtain ⟨p, hp, e⟩ := Option.map_eq_some_iff.1 h
          simp only [Prod.mk.injEq] at e
          have := ih l'.length (by omega) rfl (tx := p.1) (n := p.2) hp
          omega
        · simp at h; omega
      · split at h
        · obtain ⟨p, hp, e⟩ := Option.map_eq_some_iff.1 h
          simp only [Prod.mk.injEq] at e
          have := ih (b' :: l').length (by simp; omega) rfl (tx := p.1) (n := p.2) hp
          simp at this; omega
        · cases h

theorem tok_fits {j : Bool} {l : Bs} {k : Int} {tx : Bs} {m : Nat} (h0 : l ≠ []) (h : tok j l = .good k tx m) : 1 ≤ m ∧ m ≤ l.length := by
  have hlen : 1 ≤ l.length := List.length_pos_iff.2 h0
  unfold tok at h
  split at h
  · rename_i hb
    have h1 := run_pos (p := wordy) h0 (by simp [wordy, hb])
    have h2 := run_le wordy l
    have h3 := colon_or l (run wordy l : Nat)
    have h4 : colon l (run wordy l : Nat) = 1 → run wordy l < l.length := fun e => colon_lt e.symm
    unfold wordT at h
    simp only at h
    split at h
    · simp only [Tk.good.injEq] at h; omega
    · cases h
  · split at h
    · have h2 := run_le wordy (l.drop 1)
      rw [List.length_drop] at h2
      have h3 := colon_or l (1 + (run wordy (l.drop 1) : Nat))
      have h4 : colon l (1 + ((run wordy (l.drop 1) : Nat) : Int)) = 1 → 1 + run wordy (l.drop 1) < l.length := fun e => colon_lt (n := 1 + run wordy (l.drop 1)) (by rw [← e]; rfl)
      unfold primT at h
      simp only at h
      split at h
      · simp only [Tk.good.injEq] at h; omega
      · cases h
    · split at h
      · rename_i hb
        have h1 := run_pos (p := digit) h0 hb
        have h2 := run_le digit l
        unfold numT at h
        simp only at h
        split at h
        · simp only [Tk.good.injEq] at h; omega
        · cases h
      · split at h
        · unfold strT at h
          cases hs : strC (l.drop 1) with
          | none => rw [hs] at h; cases h
          | some p =>
            obtain ⟨tx', n⟩ := p
            rw [hs] at h
            simp only [Tk.good.injEq] at h
            have := strC_le hs
            rw [List.length_drop] at this
            omega
        · split at h
          · rename_i hb
            have h1 := run_pos (p := isop) h0 hb
            have h2 := run_le isop l
            unfold opT at h
            simp only at h
            split at h
            · simp only [Tk.good.injEq] at h; omega
            · cases h
          · split at h
            · unfold signT at h
              simp only [Tk.good.injEq] at h; omega
            · cases h

theorem pas_le : ∀ (l : Bs) (k : Nat) (cm : Option Nat) (n : Nat), pas k cm l = .at n → k ≤ n ∧ n ≤ k + l.length := by
  intro l
  induction l with
  | nil => intro k cm n h; cases cm <;> simp [pas] at h; omega
  | cons b l ih =>
    intro k cm n h
    cases cm with
    | none =>
      rw [pas] at h
      split at h
      · have := ih _ _ _ h; simp; omega
      · split at h
        · have := ih _ _ _ h; simp; omega
        · simp at h; simp; omega
    | some c =>
      rw [pas] at h
      split at h
      · have := ih _ _ _ h; simp; omega
      · have := ih _ _ _ h; simp; omega

end Lx
end Go.Proofs.YtogmealngeejmaaGreatDoor
