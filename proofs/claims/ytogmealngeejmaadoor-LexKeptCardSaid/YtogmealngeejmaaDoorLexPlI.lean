/- The plain law of LexKept, whole. -/
import Derived.Test.YtogmealngeejmaaDoorLexPlH
namespace Go.Proofs.YtogmealngeejmaaDoor
open Go Go.RowKit

/-- Behind the same bytes lines move by what the first one moves by, columns while the line is the first one. -/
theorem Lx.adv_shift : ∀ (D : Lx.Bs) (l c l' c' : Int), (Lx.adv D (l', c')).1 = (Lx.adv D (l, c)).1 + (l' - l) ∧
    (Lx.adv D (l', c')).2 = if (Lx.adv D (l, c)).1 = l then (Lx.adv D (l, c)).2 + (c' - c) else (Lx.adv D (l, c)).2 := by
  intro D
  induction D with
  | nil => intro l c l' c'; simp only [Lx.adv_nil, if_true]; omega
  | cons b D ih =>
    intro l c l' c'
    have e : ∀ p, Lx.adv (b :: D) p = Lx.adv D (Lx.adv1 p b) := fun _ => rfl
    rw [e, e]
    unfold Lx.adv1
    by_cases hb : b = 10
    · simp only [hb, if_true]
      have h := ih (l + 1) 1 (l' + 1) 1
      have hb := (Lx.adv_bound D (l + 1, 1)).1
      simp only at hb
      have hne : ¬ (Lx.adv D (l + 1, 1)).1 = l := by omega
      rw [if_neg hne]
      refine ⟨by omega, ?_⟩
      rw [h.2]; split <;> omega
    · simp only [hb, if_false]
      have h := ih l (c + 1) l' (c' + 1)
      refine ⟨h.1, ?_⟩
      rw [h.2]
      split <;> omega

theorem runOf_take {α : Type} (p : α → Bool) (l : List α) : ∃ h : Nat, runOf p l = h ∧ h ≤ l.length ∧ ∀ x ∈ l.take h, p x = true := by
  refine ⟨(l.takeWhile p).length, rfl, (List.takeWhile_prefix p).length_le, ?_⟩
  intro x hx
  have : l.take (l.takeWhile p).length = l.takeWhile p := (List.prefix_iff_eq_take.1 (List.takeWhile_prefix p)).symm
  rw [this] at hx
  have go : ∀ l : List α, x ∈ l.takeWhile p → p x = true := by
    intro l
    induction l with
    | nil => intro h; simp at h
    | cons y l ih =>
      intro h
      rw [List.takeWhile_cons] at h
      split at h
      · rename_i hy
        rcases List.mem_cons.1 h with rfl | h
        · exact hy
        · exact ih h
      · simp at h
  exact go l hx

theorem Lx.spelled_alike {x y : Tok} (h : Tok.alike x y = true) : Lx.spelled x = Lx.spelled y := by
  unfold Tok.alike at h
  simp only [Bool.and_eq_true, beq_iff_eq] at h
  unfold Lx.spelled
  rw [h.1, h.2]

/-- What a change that succeeds keeps. -/
structure Lx.Keeps (s : Lx.Bs) (frm tw : Int) (wi out : Lx.Bs) (l m : List Lx.Pc) (head tail : Nat) : Prop where
  ok : 0 ≤ frm ∧ frm ≤ tw ∧ tw ≤ s.length
  text : out = s.take frm.toNat ++ wi ++ s.drop tw.toNat
  len : (out.length : Int) = s.length + wi.length + frm - tw
  fits : head + tail ≤ l.length ∧ head + tail ≤ m.length
  same : m.take head = l.take head
  back : ∀ (k : Nat) (x y : Lx.Pc), k < tail → l[l.length - 1 - k]? = some x → m[m.length - 1 - k]? = some y → Tok.alike (tkOf x) (tkOf y) = true ∧
    y.line = x.line + ((Lx.at out (frm + wi.length)).1 - (Lx.at s tw).1) ∧
    y.col = if x.line = (Lx.at s tw).1 then x.col + ((Lx.at out (frm + wi.length)).2.1 - (Lx.at s tw).2.1) else x.col
  again : ∃ h t a, Lx.edit out frm (frm + wi.length) ((s.take tw.toNat).drop frm.toNat) = (s, h, t, 0, a)

theorem Lx.edit_bad {s wi : Lx.Bs} {frm tw : Int} (h : (Lx.edit s frm tw wi).2.2.2.1 ≠ 0) : (Lx.edit s frm tw wi).1 = [] ∧ (Lx.edit s frm tw wi).2.1 = 0 ∧ (Lx.edit s frm tw wi).2.2.1 = 0 := by
  revert h
  unfold Lx.edit
  split
  · intro _; exact ⟨rfl, rfl, rfl⟩
  · split
    · intro _; exact ⟨rfl, rfl, rfl⟩
    · split
      · intro _; exact ⟨rfl, rfl, rfl⟩
      · intro h; exact absurd rfl h

theorem Lx.edit_keeps {s wi : Lx.Bs} {frm tw : Int} (h : (Lx.edit s frm tw wi).2.2.2.1 = 0) : ∃ (out : Lx.Bs) (l m : List Lx.Pc) (head tail a b : Nat),
    Lx.edit s frm tw wi = (out, (head : Int), (tail : Int), 0, 0) ∧ Lx.dv s = (l, 0, a) ∧ Lx.dv out = (m, 0, b) ∧ Lx.Keeps s frm tw wi out l m head tail := by
  have hE : Lx.edit s frm tw wi = (if frm < 0 ∨ tw < frm ∨ (s.length : Int) < tw then ([], 0, 0, 1, 0)
    else if (Lx.dv s).2.1 ≠ 0 then ([], 0, 0, (Lx.dv s).2.1, (Lx.dv s).2.2)
    else if (Lx.dv (s.take frm.toNat ++ wi ++ s.drop tw.toNat)).2.1 ≠ 0 then ([], 0, 0, (Lx.dv (s.take frm.toNat ++ wi ++ s.drop tw.toNat)).2.1, (Lx.dv (s.take frm.toNat ++ wi ++ s.drop tw.toNat)).2.2)
    else (s.take frm.toNat ++ wi ++ s.drop tw.toNat, runOf (fun p => decide ((p.to : Int) < frm)) (Lx.dv s).1,
      runOf (Lx.stays s.length (s.take frm.toNat ++ wi ++ s.drop tw.toNat).length tw) (Lx.ends2 (Lx.dv s).1 (Lx.dv (s.take frm.toNat ++ wi ++ s.drop tw.toNat)).1 (runOf (fun p => decide ((p.to : Int) < frm)) (Lx.dv s).1).toNat), 0, 0)) := rfl
  rw [hE] at h ⊢
  by_cases h0 : frm < 0 ∨ tw < frm ∨ (s.length : Int) < tw
  · rw [if_pos h0] at h; exact absurd h (by decide)
  · rw [if_neg h0] at h ⊢
    by_cases h1 : (Lx.dv s).2.1 ≠ 0
    · rw [if_pos h1] at h; exact absurd h h1
    · rw [if_neg h1] at h ⊢
      obtain ⟨out, hout⟩ : ∃ out, out = s.take frm.toNat ++ wi ++ s.drop tw.toNat := ⟨_, rfl⟩
      rw [← hout] at h ⊢
      by_cases h2 : (Lx.dv out).2.1 ≠ 0
      · rw [if_pos h2] at h; exact absurd h h2
      · rw [if_neg h2]
        have h1' := Decidable.not_not.1 h1
        have h2' := Decidable.not_not.1 h2
        obtain ⟨⟨l, e1, a⟩, hl⟩ : ∃ r, Lx.dv s = r := ⟨_, rfl⟩
        obtain ⟨⟨m, e2, b⟩, hm⟩ : ∃ r, Lx.dv out = r := ⟨_, rfl⟩
        rw [hl] at h1' ⊢
        rw [hm] at h2' ⊢
        simp only at h1' h2' ⊢
        subst h1'; subst h2'
        obtain ⟨head, hh, hhl, hhp⟩ := runOf_take (fun p : Lx.Pc => decide ((p.to : Int) < frm)) l
        rw [hh]
        simp only [Int.toNat_natCast]
        obtain ⟨tail, ht, htl, htp⟩ := runOf_take (Lx.stays s.length out.length tw) (Lx.ends2 l m head)
        rw [ht]
        rw [Lx.ends2_len] at htl
        have hlo : (out.length : Int) = s.length + wi.length + frm - tw := by
          rw [hout]; simp only [List.length_append, List.length_take, List.length_drop]; omega
        have hP : s = s.take frm.toNat ++ s.drop frm.toNat := (List.take_append_drop _ _).symm
        have hO : out = s.take frm.toNat ++ (wi ++ s.drop tw.toNat) := by rw [hout, List.append_assoc]
        have hPl : (s.take frm.toNat).length = frm.toNat := by rw [List.length_take]; omega
        have hsame : m.take head = l.take head := by
          refine Lx.dv_pre (P := s.take frm.toNat) (A := s.drop frm.toNat) (B := wi ++ s.drop tw.toNat) (a := a) (b := b) (by rw [← hP]; exact hl) (by rw [← hO]; exact hm) hhl ?_
          intro p hp
          have := hhp p hp
          simp only [decide_eq_true_eq] at this
          rw [hPl]; omega
        have hhm : head ≤ m.length := by
          have := congrArg List.length hsame
          simp only [List.length_take] at this; omega
        refine ⟨out, l, m, head, tail, a, b, rfl, rfl, hm, ⟨by omega, hout, hlo, by omega, hsame, ?_, ?_⟩⟩
        · intro k x y hk hx hy
          have hxy := Lx.ends2_get (old := l) (now := m) (h := head) (k := k) (by omega) (by omega) hx hy
          have hst := htp (x, y) (by
            rw [List.mem_iff_getElem?]
            exact ⟨k, by rw [List.getElem?_take_of_lt hk]; exact hxy⟩)
          unfold Lx.stays at hst
          simp only [Bool.and_eq_true, beq_iff_eq, Bool.not_eq_true', decide_eq_false_iff_not] at hst
          obtain ⟨⟨hal, hto⟩, hfr⟩ := hst
          have hxm : x ∈ (Lx.dv s).1 := by rw [hl]; exact List.mem_of_getElem? hx
          have hym : y ∈ (Lx.dv out).1 := by rw [hm]; exact List.mem_of_getElem? hy
          have hxs := (Lx.dv_spell hxm).1
          have hys := (Lx.dv_spell hym).1
          rw [Lx.spelled_alike hal] at hxs
          have hpx := Lx.dv_place s x hxm
          have hpy := Lx.dv_place out y hym
          have hxt := (Lx.dv_to s x hxm).2
          have hyt := (Lx.dv_to out y hym).2
          have hft := Lx.dv_from s x hxm
          refine ⟨hal, ?_⟩
          -- what stands between
          obtain ⟨d, hd⟩ : ∃ d : Nat, (x.frm : Int) = tw + d := ⟨(x.frm - tw).toNat, by omega⟩
          have hd2 : (y.frm : Int) = frm + wi.length + d := by omega
          have t1 : s.take x.frm = s.take tw.toNat ++ (s.drop tw.toNat).take d := by
            rw [show x.frm = tw.toNat + d by omega, List.take_add]
          have hol : (s.take frm.toNat ++ wi).length = (frm + wi.length).toNat := by simp only [List.length_append, hPl]; omega
          have t2 : out.take y.frm = out.take (frm + wi.length).toNat ++ (s.drop tw.toNat).take d := by
            rw [show y.frm = (frm + wi.length).toNat + d by omega, List.take_add, ← hol, hout, List.drop_left]
          have a1 : Lx.at s tw = ((Lx.adv (s.take tw.toNat) (1, 1)).1, (Lx.adv (s.take tw.toNat) (1, 1)).2, 0) := by unfold Lx.at; rw [if_pos (by omega)]
          have a2 : Lx.at out (frm + wi.length) = ((Lx.adv (out.take (frm + wi.length).toNat) (1, 1)).1, (Lx.adv (out.take (frm + wi.length).toNat) (1, 1)).2, 0) := by unfold Lx.at; rw [if_pos (by omega)]
          rw [a1, a2]
          rw [t1, Lx.adv_append] at hpx
          rw [t2, Lx.adv_append] at hpy
          obtain ⟨⟨l1, c1⟩, hq1⟩ : ∃ q, Lx.adv (s.take tw.toNat) (1, 1) = q := ⟨_, rfl⟩
          obtain ⟨⟨l2, c2⟩, hq2⟩ : ∃ q, Lx.adv (out.take (frm + wi.length).toNat) (1, 1) = q := ⟨_, rfl⟩
          rw [hq1] at hpx ⊢
          rw [hq2] at hpy ⊢
          have hs := Lx.adv_shift ((s.drop tw.toNat).take d) l1 c1 l2 c2
          rw [hpx, hpy] at hs
          exact hs
        · have hol : (s.take frm.toNat ++ wi).length = (frm + wi.length).toNat := by simp only [List.length_append, hPl]; omega
          have b1 : out.take frm.toNat = s.take frm.toNat := by rw [hO, List.take_append_of_le_length (by omega), List.take_take, Nat.min_self]
          have b2 : out.drop (frm + wi.length).toNat = s.drop tw.toNat := by rw [← hol, hout, List.drop_left]
          have b3 : out.take frm.toNat ++ (s.take tw.toNat).drop frm.toNat ++ out.drop (frm + wi.length).toNat = s := by
            rw [b1, b2]
            have : s.take frm.toNat = (s.take tw.toNat).take frm.toNat := by rw [List.take_take, Nat.min_eq_left (by omega)]
            rw [this, List.take_append_drop, List.take_append_drop]
          unfold Lx.edit
          rw [if_neg (by omega), b3, hl, hm, if_neg (by simp), if_neg (by simp)]
          exact ⟨_, _, _, rfl⟩

end Go.Proofs.YtogmealngeejmaaDoor
