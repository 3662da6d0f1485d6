import Derived.Lib.IndexAny
/- What the lexer computes, over lists of bytes: no program in sight. -/
namespace Go.Proofs.YtogmealngeejmaaGreatDoor
namespace Lx
abbrev Bs := List UInt8

def small (b : UInt8) : Bool := decide ((97 : Int) ≤ b.toNat) && decide ((b.toNat : Int) ≤ 122)
def large (b : UInt8) : Bool := decide ((65 : Int) ≤ b.toNat) && decide ((b.toNat : Int) ≤ 90)
def letter (b : UInt8) : Bool := small b || large b
def digit (b : UInt8) : Bool := decide ((48 : Int) ≤ b.toNat) && decide ((b.toNat : Int) ≤ 57)
def wordy (b : UInt8) : Bool := letter b || digit b
/-- "+-*/%<>=~&@!?" -/
def ops : Bs := [43, 45, 42, 47, 37, 60, 62, 61, 126, 38, 64, 33, 63]
/-- "()[]|.^:;" -/
def signs : Bs := [40, 41, 91, 93, 124, 46, 94, 58, 59]
def isop (b : UInt8) : Bool := ops.contains b
def issign (b : UInt8) : Bool := signs.contains b
def blank (b : UInt8) : Bool := (b.toNat : Int) == 32 || (b.toNat : Int) == 9 || (b.toNat : Int) == 10

/-- The byte some places ahead; 0: there is none. -/
def nx (l : Bs) (n : Int) : UInt8 := l.getD n.toNat 0
/-- How many bytes are such, from the beginning on. -/
def run (p : UInt8 → Bool) (l : Bs) : Nat := (l.takeWhile p).length
def colon (l : Bs) (n : Int) : Int := if ((nx l n).toNat : Int) == 58 then 1 else 0
/-- A byte that may stand in a string. -/
def strb (b : UInt8) : Bool := decide ((32 : Int) ≤ b.toNat) && decide ((b.toNat : Int) ≤ 126) && ((b.toNat : Int) != 39)

theorem colon_or (l : Bs) (n : Int) : colon l n = 0 ∨ colon l n = 1 := by unfold colon; split <;> simp
theorem colon_lt {l : Bs} {n : Nat} (h : (1 : Int) = colon l n) : n < l.length := by
  rcases Nat.lt_or_ge n l.length with h' | h'
  · exact h'
  · unfold colon nx at h
    rw [List.getD_eq_getElem?_getD, List.getElem?_eq_none (by simpa using h')] at h
    simp at h
theorem run_le (p : UInt8 → Bool) (l : Bs) : run p l ≤ l.length := (List.takeWhile_prefix p).length_le
theorem run_yes {p : UInt8 → Bool} {l : Bs} {k : Nat} (h : k < run p l) : p (l.getD k 0) = true := by
  unfold run at h
  induction l generalizing k with
  | nil => simp at h
  | cons b l ih =>
    by_cases hb : p b
    · simp only [List.takeWhile_cons, hb, if_true, List.length_cons] at h
      cases k with
      | zero => simpa using hb
      | succ k => simpa using ih (k := k) (by omega)
    · simp [hb] at h
theorem run_no {p : UInt8 → Bool} {l : Bs} (h : run p l < l.length) : p (l.getD (run p l) 0) = false := by
  unfold run at h ⊢
  induction l with
  | nil => simp at h
  | cons b l ih =>
    by_cases hb : p b
    · simp only [List.takeWhile_cons, hb, if_true, List.length_cons] at h ⊢
      simpa using ih (by omega)
    · simp [hb]
/-- A run that has come to k, and cannot go on. -/
theorem run_eq {p : UInt8 → Bool} {l : Bs} {k : Nat} (h1 : ∀ j, j < k → p (l.getD j 0) = true) (h2 : k ≤ l.length) (h3 : k < l.length → p (l.getD k 0) = false) : run p l = k := by
  rcases Nat.lt_trichotomy (run p l) k with h | h | h
  · have := run_no (p := p) (l := l) (by omega)
    rw [h1 _ h] at this; cases this
  · exact h
  · have h4 := run_yes h
    have := run_le p l
    rw [h3 (by omega)] at h4; cases h4

/-- Line and column behind some bytes. -/
def adv1 (p : Int × Int) (b : UInt8) : Int × Int := if b = 10 then (p.1 + 1, 1) else (p.1, p.2 + 1)
def adv (l : Bs) (p : Int × Int) : Int × Int := l.foldl adv1 p

theorem adv_nil (p : Int × Int) : adv [] p = p := rfl
theorem adv_append (a b : Bs) (p : Int × Int) : adv (a ++ b) p = adv b (adv a p) := by simp [adv]
theorem adv_snoc (a : Bs) (b : UInt8) (p : Int × Int) : adv (a ++ [b]) p = adv1 (adv a p) b := by simp [adv]

theorem adv_succ (l : Bs) (k : Nat) (h : k < l.length) (p : Int × Int) : adv (l.take (k + 1)) p = adv1 (adv (l.take k) p) (l.getD k 0) := by
  rw [List.take_succ_eq_append_getElem h, adv_snoc]; simp [List.getD, h]

theorem adv_bound (l : Bs) : ∀ (p : Int × Int), p.1 ≤ (adv l p).1 ∧ (adv l p).1 ≤ p.1 + l.length ∧ (0 ≤ p.2 → 0 ≤ (adv l p).2) ∧ (0 ≤ p.2 → (adv l p).2 ≤ p.2 + l.length + 1) := by
  induction l with
  | nil => intro p; simp [adv]; omega
  | cons b l ih =>
    intro p
    have h := ih (adv1 p b)
    have e : adv (b :: l) p = adv l (adv1 p b) := rfl
    rw [e]
    unfold adv1 at h ⊢
    split at h
    · rename_i hb
      simp only [hb, if_true, List.length_cons] at h ⊢
      refine ⟨by omega, by omega, fun _ => h.2.2.1 (by omega), fun h0 => ?_⟩
      have := h.2.2.2 (by omega)
      omega
    · rename_i hb
      simp only [hb, if_false, List.length_cons] at h ⊢
      refine ⟨by omega, by omega, fun h0 => h.2.2.1 (by omega), fun h0 => ?_⟩
      have := h.2.2.2 (by omega)
      omega

theorem adv_col (l : Bs) : ∀ (p : Int × Int), 0 ≤ p.2 → (adv l p).2 ≤ max p.2 1 + l.length := by
  induction l with
  | nil => intro p h; simp [adv]; omega
  | cons b l ih =>
    intro p h0
    have e : adv (b :: l) p = adv l (adv1 p b) := rfl
    rw [e]
    have h := ih (adv1 p b)
    unfold adv1 at h ⊢
    split at h
    · rename_i hb
      simp only [hb, if_true, List.length_cons] at h ⊢
      have := h (by omega); omega
    · rename_i hb
      simp only [hb, if_false, List.length_cons] at h ⊢
      have := h (by omega); omega

/-- What reading a token comes to: its Kind, its Text, how many bytes; or what is wrong. -/
inductive Tk where
  | good (kind : Int) (text : Bs) (n : Nat)
  | bad (e : Int)

def wordT (l : Bs) : Tk :=
  let n : Int := run wordy l
  let c := colon l n
  if n ≤ 24 ∧ (small (nx l 0) = true ∨ c = 1) then .good (if large (nx l 0) = true then 3 else 1 + c) (l.take (n + c).toNat) (n + c).toNat else .bad 12
def primT (l : Bs) : Tk :=
  let n : Int := run wordy (l.drop 1)
  if 1 ≤ n ∧ n ≤ 24 ∧ large (nx l 1) = true then .good 4 (l.take (1 + n + colon l (1 + n)).toNat) (1 + n + colon l (1 + n)).toNat else .bad 12
def numT (l : Bs) : Tk :=
  let n : Int := run digit l
  if n ≤ 400 ∧ (n = 1 ∨ nx l 0 ≠ 48) then .good 5 (l.take n.toNat) n.toNat else .bad 12
def opT (l : Bs) : Tk :=
  let n : Int := run isop l
  if n ≤ 3 then .good 7 (l.take n.toNat) n.toNat else .bad 12
def signT (j : Bool) (l : Bs) : Tk :=
  .good (if nx l 0 = 46 ∧ j = true ∧ (letter (nx l 1) = true ∨ isop (nx l 1) = true) then 9 else 8) (l.take 1) 1
/-- Behind the quote with which a string begins: its text, how many bytes; none: it does not end. -/
def strC : Bs → Option (Bs × Nat)
  | [] => none
  | [b] => if b = 39 then some ([], 1) else none
  | b :: b' :: l =>
    if b = 39 then (if b' = 39 then (strC l).map fun p => (39 :: p.1, p.2 + 2) else some ([], 1))
    else if strb b = true then (strC (b' :: l)).map fun p => (b :: p.1, p.2 + 1) else none
def strT (l : Bs) : Tk :=
  match strC (l.drop 1) with
  | some (tx, n) => .good 6 tx (n + 1)
  | none => .bad 11

theorem strb_ne {b : UInt8} (h : strb b = true) : b ≠ 39 := by
  intro e; subst e; simp [strb] at h
theorem strC_more {b : UInt8} {l : Bs} (h : strb b = true) : strC (b :: l) = (strC l).map fun p => (b :: p.1, p.2 + 1) := by
  cases l with
  | nil => simp [strC, strb_ne h]
  | cons b' l => rw [strC, if_neg (strb_ne h), if_pos h]
theorem map_map' (o : Option (Bs × Nat)) (f g : Bs × Nat → Bs × Nat) : (o.map f).map g = o.map fun p => g (f p) := by cases o <;> rfl
theorem strC_run (l : Bs) : strC l = (strC (l.drop (run strb l))).map fun p => (l.take (run strb l) ++ p.1, run strb l + p.2) := by
  induction l with
  | nil => simp [run]
  | cons b l ih =>
    by_cases hb : strb b = true
    · have e : run strb (b :: l) = run strb l + 1 := by simp [run, hb]
      rw [e, strC_more hb, ih, map_map']
      simp only [List.drop_succ_cons, List.take_succ_cons, List.cons_append]
      congr 1
      funext p
      simp only [Prod.mk.injEq, true_and]
      omega
    · have e : run strb (b :: l) = 0 := by simp [run, hb]
      rw [e, List.drop_zero]
      cases strC (b :: l) <;> simp
theorem strC_none {l : Bs} (h1 : nx l 0 ≠ 39) (h2 : ∀ b l', l = b :: l' → strb b = false) : strC l = none := by
  cases l with
  | nil => rfl
  | cons b l' =>
    have hb : b ≠ 39 := by simpa [nx] using h1
    have hs := h2 b l' rfl
    cases l' with
    | nil => rw [strC, if_neg hb]
    | cons b' l'' => rw [strC, if_neg hb, if_neg (by rw [hs]; simp)]
theorem strC_end {l : Bs} (h1 : nx l 0 = 39) (h2 : nx (l.drop 1) 0 ≠ 39) : strC l = some ([], 1) := by
  cases l with
  | nil => simp [nx] at h1
  | cons b l' =>
    have hb : b = 39 := by simpa [nx] using h1
    cases l' with
    | nil => rw [strC, if_pos hb]
    | cons b' l'' =>
      have : b' ≠ 39 := by simpa [nx] using h2
      rw [strC, if_pos hb, if_neg this]
theorem strC_two {l : Bs} (h1 : nx l 0 = 39) (h2 : nx (l.drop 1) 0 = 39) : strC l = (strC (l.drop 2)).map fun p => (39 :: p.1, p.2 + 2) := by
  cases l with
  | nil => simp [nx] at h1
  | cons b l' =>
    have hb : b = 39 := by simpa [nx] using h1
    cases l' with
    | nil => simp [nx] at h2
    | cons b' l'' =>
      have hb' : b' = 39 := by simpa [nx] using h2
      rw [strC, if_pos hb, if_pos hb']; rfl
theorem nx_lt {l : Bs} (h : nx l 0 ≠ 0) : 1 ≤ l.length := by
  cases l with
  | nil => simp [nx] at h
  | cons b l => simp

/-- What passing over blanks and comments comes to: so many bytes on; or a comment that begins there does not end. -/
inductive Ps where
  | at (n : Nat)
  | open (n : Nat)
/-- k bytes have been passed; a comment has begun at cm. -/
def pas : Nat → Option Nat → Bs → Ps
  | k, none, [] => .at k
  | _, some c, [] => .open c
  | k, none, b :: l => if blank b = true then pas (k + 1) none l else if b = 34 then pas (k + 1) (some k) l else .at k
  | k, some c, b :: l => if b = 34 then pas (k + 1) none l else pas (k + 1) (some c) l

theorem pas_run (l : Bs) : ∀ k, pas k none l = pas (k + run blank l) none (l.drop (run blank l)) := by
  induction l with
  | nil => intro k; simp [run]
  | cons b l ih =>
    intro k
    by_cases hb : blank b = true
    · have e : run blank (b :: l) = run blank l + 1 := by simp [run, hb]
      rw [e, pas, if_pos hb, ih, List.drop_succ_cons]
      congr 1; omega
    · have e : run blank (b :: l) = 0 := by simp [run, hb]
      rw [e]; rfl
theorem pas_stop {l : Bs} {k : Nat} (h1 : nx l 0 ≠ 34) (h2 : ∀ b l', l = b :: l' → blank b = false) : pas k none l = .at k := by
  cases l with
  | nil => rfl
  | cons b l' =>
    have hb : b ≠ 34 := by simpa [nx] using h1
    rw [pas, if_neg (by rw [h2 b l' rfl]; simp), if_neg hb]
theorem pas_in (l : Bs) : ∀ k c, pas k (some c) l = if 0 ≤ Lib.indexByte l 34 then pas (k + (Lib.indexByte l 34).toNat + 1) none (l.drop ((Lib.indexByte l 34).toNat + 1)) else .open c := by
  induction l with
  | nil => intro k c; simp [pas, Lib.indexByte]
  | cons b l ih =>
    intro k c
    have hge := Lib.indexByte_ge l 34
    rw [pas]
    by_cases hb : b = 34
    · subst hb; simp [Lib.indexByte]
    · rw [if_neg hb, ih]
      simp only [Lib.indexByte, beq_iff_eq, hb, if_false]
      by_cases hn : Lib.indexByte l 34 = -1
      · simp [hn]
      · rw [if_neg hn, if_pos (by omega), if_pos (by omega)]
        rw [show (Lib.indexByte l 34 + 1).toNat = (Lib.indexByte l 34).toNat + 1 by omega, List.drop_succ_cons]
        congr 1; omega
theorem pas_comment {l : Bs} {k : Nat} (h : nx l 0 = 34) : pas k none l = if 0 ≤ Lib.indexByte (l.drop 1) 34 then pas (k + ((Lib.indexByte (l.drop 1) 34).toNat + 2)) none (l.drop ((Lib.indexByte (l.drop 1) 34).toNat + 2)) else .open k := by
  cases l with
  | nil => simp [nx] at h
  | cons b l =>
    have hb : b = 34 := by simpa [nx] using h
    rw [pas, if_neg (by rw [hb]; decide), if_pos hb, pas_in]
    simp only [List.drop_succ_cons, List.drop_zero]
    split
    · congr 1; omega
    · rfl
theorem indexByte_lt (l : Bs) (c : UInt8) : Lib.indexByte l c < l.length := by
  induction l with
  | nil => simp [Lib.indexByte]
  | cons b l ih =>
    simp only [Lib.indexByte, List.length_cons]
    split
    · omega
    · split
      · omega
      · omega

end Lx
end Go.Proofs.YtogmealngeejmaaGreatDoor
