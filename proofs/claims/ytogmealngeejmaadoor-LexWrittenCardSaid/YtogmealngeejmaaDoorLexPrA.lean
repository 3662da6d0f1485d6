/- Print: what is printed; the builder through other calls. -/
import Derived.Test.YtogmealngeejmaaDoorLexZ
namespace Go.Proofs.YtogmealngeejmaaDoor
open Go Go.RowKit Go.Shelf Go.Proofs

/-- What is written for token number i: none: it may not stand there. -/
def Lx.part (l : List Tok) (i : Nat) : Option Lx.Bs :=
  match l[i]? with
  | none => none
  | some x =>
    if x.kind = 9 then
      match i, l[i + 1]? with
      | i' + 1, some y =>
        match l[i']? with
        | some p => if p.kind = 1 ∧ (Lx.letter (Lx.nx (Lx.spelled y) 0) || Lx.isop (Lx.nx (Lx.spelled y) 0)) = true then some (Lx.spelled x) else none
        | none => none
      | _, _ => none
    else
      match i with
      | 0 => some (Lx.spelled x)
      | i' + 1 => match l[i']? with
        | some p => some ((if p.kind = 9 then [] else [32]) ++ Lx.spelled x)
        | none => none

def Lx.printTo (l : List Tok) : Nat → Option Lx.Bs
  | 0 => some []
  | k + 1 => match Lx.printTo l k with
    | none => none
    | some a => match Lx.part l k with
      | none => none
      | some b => some (a ++ b)

def Lx.print (l : List Tok) : Lx.Bs × Int :=
  if Lx.check l ≠ 0 then ([], Lx.check l)
  else match Lx.printTo l l.length with
    | none => ([], 13)
    | some s => if 20000 < s.length then ([], 2) else (s, 0)

theorem Lx.printTo_none {l : List Tok} {k : Nat} : ∀ n, k < n → Lx.printTo l k ≠ none → Lx.part l k = none → Lx.printTo l n = none := by
  intro n
  induction n with
  | zero => intro h; omega
  | succ n ih =>
    intro h hp hn
    by_cases he : k = n
    · subst he
      cases hq : Lx.printTo l k with
      | none => simp [Lx.printTo, hq]
      | some a => simp [Lx.printTo, hq, hn]
    · have := ih (by omega) hp hn
      simp [Lx.printTo, this]

theorem Lx.spelled_len (x : Tok) : (Lx.spelled x).length ≤ 2 * x.text.length + 2 := by
  have := Lx.dbl_len x.text
  unfold Lx.spelled
  split
  · simp; omega
  · omega

theorem Lx.part_len {l : List Tok} {k : Nat} {b : Lx.Bs} {x : Tok} (hx : l[k]? = some x) (h : Lx.part l k = some b) : b.length ≤ 2 * x.text.length + 3 := by
  have := Lx.spelled_len x
  unfold Lx.part at h
  rw [hx] at h
  simp only at h
  split at h
  · split at h
    · split at h
      · split at h
        · cases h; omega
        · cases h
      · cases h
    · cases h
  · split at h
    · cases h; omega
    · split at h
      · cases h
        rename_i p _
        by_cases hp : p.kind = 9
        · rw [if_pos hp]; simp; omega
        · rw [if_neg hp]; simp; omega
      · cases h

theorem Lx.printTo_len {l : List Tok} (hl : ∀ x ∈ l, x.text.length ≤ 1000000) : ∀ (k : Nat) (s : Lx.Bs), Lx.printTo l k = some s → s.length ≤ k * 2000003 := by
  intro k
  induction k with
  | zero => intro s h; simp [Lx.printTo] at h; subst h; simp
  | succ k ih =>
    intro s h
    simp only [Lx.printTo] at h
    split at h
    · cases h
    · rename_i a ha
      split at h
      · cases h
      · rename_i b hb
        cases h
        have h1 := ih a ha
        obtain ⟨x, hx⟩ : ∃ x, l[k]? = some x := by
          cases hx : l[k]? with
          | some x => exact ⟨x, rfl⟩
          | none => rw [Lx.part, hx] at hb; cases hb
        have h2 := Lx.part_len hx hb
        have h3 := hl x (List.mem_of_getElem? hx)
        simp only [List.length_append]
        rw [Nat.succ_mul]
        omega

/-- What is right is not empty when it is spelled. -/
theorem Lx.spelled_ne {x : Tok} (h : Lx.right x = true) : Lx.spelled x ≠ [] := by
  unfold Lx.spelled
  split
  · simp
  · rename_i h6
    unfold Lx.right at h
    split at h
    · cases h
    · split at h
      · intro e; rw [e] at h; simp at h
      · intro e
        rw [e] at h
        have hk : Lx.kind [] = 0 := by decide
        rw [hk] at h
        simp at h
        exact h.1 h.2.symm

theorem Lx.check_right {l : List Tok} (h : Lx.check l = 0) : l.length ≤ 6000 ∧ ∀ x ∈ l, Lx.right x = true := by
  unfold Lx.check at h
  split at h
  · cases h
  · split at h
    · cases h
    · rename_i h1 h2
      refine ⟨by omega, fun x hx => ?_⟩
      simp at h2
      exact h2 x hx

/-- A builder is one still where what lies is kept. -/
theorem IsBuilderF_keep {T e : TypeId} {B b : Nat} {bs : List Value} {w w' : World} (h : Lib.IsBuilderF T e B b bs w) (k : Kp [] w w') : Lib.IsBuilderF T e B b bs w' := by
  have one : ∀ p, Lib.BuilderAtF T e B b p bs w → Lib.BuilderAtF T e B b p bs w' := by
    rintro p ⟨hB, v, hb, hown, hne⟩
    refine ⟨hB, v, k.heap hb (by simp), ⟨hown.1, ?_⟩, hne⟩
    rcases hown.2 with h | ⟨g, cap, cur, fz, h1, h2, h3, h4⟩
    · exact .inl h
    · exact .inr ⟨g, cap, cur, fz, h1, h2, k.heap h3 (by simp), h4⟩
  rcases h with h | h
  · exact .inl (one _ h)
  · exact .inr (one _ h)

theorem IsBuilderF_new {T e : TypeId} {w : World} {b : Nat} (hb : w.heap[b]? = some (.cells #[.pointer none, .slice none 0 0] T (0, 0))) : Lib.IsBuilderF T e b b [] w :=
  .inl ⟨Nat.le_refl _, _, hb, ⟨rfl, .inl ⟨rfl, rfl⟩⟩, by simp [Value.ownBlock]⟩

theorem Kp.below_trans {w w1 w2 : World} {B : Nat} (h : Kp [] w w1) (hb : Below B w1 w2) (hB : w.heap.size ≤ B) : Kp [] w w2 :=
  ⟨hb.os.trans h.os, hb.tape.trans h.tape, hb.output.trans h.output, Nat.le_trans h.size hb.size, fun k hk hn => (hb.block k (by omega)).trans (h.block k hk hn)⟩

theorem writeString_k (B b : Nat) (bs : List Value) (s : ByteArray) (w : World) (h : Lib.IsBuilderF 69 5 B b bs w) (hlen : bs.length + s.size ≤ 140737488355328) (hBw : B ≤ w.heap.size) :
    Calls Tryd.prog 33 #[.pointer (some ⟨b, 0, none⟩), .string s] w fun e w' => e = .returned (.tuple #[.int .i64 s.size, .nilIface]) ∧ (Lib.IsBuilderF 69 5 B b (bs ++ Lib.strCells s) w' ∧ Below B w w' ∧ Lib.OthersKept 5 (some b) w w') :=
  (Any.Builder_WriteString_k lays166 extra166 B b bs s w h hlen hBw).mono fun _ _ ⟨h1, h2, h3⟩ => ⟨h1, .inr h2, h3⟩

theorem writeByte_k (B b : Nat) (bs : List Value) (c : Int) (w : World) (h : Lib.IsBuilderF 69 5 B b bs w) (hlen : bs.length + 1 ≤ 140737488355328) (hBw : B ≤ w.heap.size) :
    Calls Tryd.prog 32 #[.pointer (some ⟨b, 0, none⟩), .int .u8 c] w fun e w' => e = .returned .nilIface ∧ (Lib.IsBuilderF 69 5 B b (bs ++ [.int .u8 c]) w' ∧ Below B w w' ∧ Lib.OthersKept 5 (some b) w w') :=
  (Any.Builder_WriteByte_k lays167 extra167 B b bs c w h hlen hBw).mono fun _ _ ⟨h1, h2, h3⟩ => ⟨h1, .inr h2, h3⟩

end Go.Proofs.YtogmealngeejmaaDoor
