/- The plain law of LexWritten: what is printed is read again; what was read can be printed. -/
import Derived.Test.YtogmealngeejmaaDoorLexPlF
import Derived.Test.YtogmealngeejmaaDoorLexPrA
namespace Go.Proofs.YtogmealngeejmaaDoor
open Go Go.RowKit

theorem Lx.printTo_split {l : List Tok} : ∀ (n : Nat) (s : Lx.Bs), Lx.printTo l n = some s → ∀ k, k ≤ n → ∃ a r, Lx.printTo l k = some a ∧ s = a ++ r := by
  intro n
  induction n with
  | zero => intro s h k hk; obtain rfl : k = 0 := by omega
            exact ⟨s, [], h, by simp⟩
  | succ n ih =>
    intro s h k hk
    by_cases he : k = n + 1
    · subst he; exact ⟨s, [], h, by simp⟩
    · simp only [Lx.printTo] at h
      split at h
      · cases h
      · rename_i a ha
        split at h
        · cases h
        · rename_i b hb
          cases h
          obtain ⟨a', r, h1, h2⟩ := ih a ha k (by omega)
          exact ⟨a', r ++ b, h1, by rw [h2, List.append_assoc]⟩

theorem Lx.printTo_step {l : List Tok} {n k : Nat} {s a r : Lx.Bs} (h : Lx.printTo l n = some s) (hk : k < n) (ha : Lx.printTo l k = some a) (hs : s = a ++ r) :
    ∃ b r', Lx.part l k = some b ∧ r = b ++ r' ∧ Lx.printTo l (k + 1) = some (a ++ b) ∧ s = (a ++ b) ++ r' := by
  obtain ⟨a1, r1, h1, h2⟩ := Lx.printTo_split n s h (k + 1) (by omega)
  have h1' := h1
  simp only [Lx.printTo, ha] at h1'
  split at h1'
  · cases h1'
  · rename_i b hb
    cases h1'
    refine ⟨b, r1, hb, ?_, h1, h2⟩
    rw [hs, List.append_assoc] at h2
    exact List.append_cancel_left h2

/-- Kind and text. -/
def Tok.bare (x : Tok) : Int × Lx.Bs := (x.kind, x.text)
theorem alike_bare : ∀ (a b : List Tok), a.map Tok.bare = b.map Tok.bare → eqBy Tok.alike a b = true := by
  intro a b h
  have hl : a.length = b.length := by have := congrArg List.length h; simpa using this
  refine eqBy_yes hl fun j x y _ hx hy => ?_
  have h1 : (a.map Tok.bare)[j]? = some x.bare := by simp [hx]
  have h2 : (b.map Tok.bare)[j]? = some y.bare := by simp [hy]
  rw [h, h2] at h1
  simp only [Option.some.injEq, Tok.bare, Prod.mk.injEq] at h1
  simp [Tok.alike, h1.1, h1.2]

theorem Lx.nx_cons (b : UInt8) (l : Lx.Bs) : Lx.nx (b :: l) 0 = b := by simp [Lx.nx]
theorem Lx.nx_app {a b : Lx.Bs} (h : a ≠ []) : Lx.nx (a ++ b) 0 = Lx.nx a 0 := Lx.nx_left (by simpa using List.length_pos_iff.2 h)

/-- The part of a dot. -/
theorem Lx.part_dot {l : List Tok} {k : Nat} {x : Tok} {b : Lx.Bs} (hx : l[k]? = some x) (h9 : x.kind = 9) (hb : Lx.part l k = some b) :
    ∃ (i : Nat) (p y : Tok), k = i + 1 ∧ l[i]? = some p ∧ p.kind = 1 ∧ l[k + 1]? = some y ∧ (Lx.letter (Lx.nx (Lx.spelled y) 0) || Lx.isop (Lx.nx (Lx.spelled y) 0)) = true ∧ b = Lx.spelled x := by
  unfold Lx.part at hb
  rw [hx] at hb
  simp only at hb
  rw [if_pos h9] at hb
  cases k with
  | zero => simp at hb
  | succ i =>
    cases hy : l[i + 1 + 1]? with
    | none => rw [hy] at hb; simp at hb
    | some y =>
      rw [hy] at hb
      simp only at hb
      cases hp : l[i]? with
      | none => rw [hp] at hb; simp at hb
      | some p =>
        rw [hp] at hb
        simp only at hb
        split at hb
        · rename_i hc
          exact ⟨i, p, y, rfl, hp, hc.1, rfl, hc.2, (Option.some.inj hb).symm⟩
        · cases hb
/-- The part of another token. -/
theorem Lx.part_plain {l : List Tok} {k : Nat} {x : Tok} {b : Lx.Bs} (hx : l[k]? = some x) (h9 : x.kind ≠ 9) (hb : Lx.part l k = some b) :
    (k = 0 ∧ b = Lx.spelled x) ∨ ∃ (i : Nat) (p : Tok), k = i + 1 ∧ l[i]? = some p ∧ b = (if p.kind = 9 then [] else [32]) ++ Lx.spelled x := by
  unfold Lx.part at hb
  rw [hx] at hb
  simp only at hb
  rw [if_neg h9] at hb
  cases k with
  | zero => exact .inl ⟨rfl, (Option.some.inj hb).symm⟩
  | succ i =>
    right
    cases hp : l[i]? with
    | none => simp only [hp] at hb; cases hb
    | some p =>
      simp only [hp] at hb
      exact ⟨i, p, rfl, hp, (Option.some.inj hb).symm⟩

theorem Lx.dot_text {x : Tok} (h : Lx.right x = true) (h9 : x.kind = 9) : x.text = [46] ∧ Lx.spelled x = [46] := by
  have ht : x.text = [46] := by
    unfold Lx.right at h
    split at h
    · cases h
    · simpa using h
  exact ⟨ht, by unfold Lx.spelled; rw [if_neg (by omega), ht]⟩

/-- What may be said of the part behind token number k. -/
theorem Lx.part_follow {l : List Tok} {k : Nat} {x : Tok} {b : Lx.Bs} (hx : l[k]? = some x) (h9 : x.kind ≠ 9) (hr : ∀ x ∈ l, Lx.right x = true) (hb : Lx.part l (k + 1) = some b) (r : Lx.Bs) : Lx.follow (b ++ r) := by
  cases hy : l[k + 1]? with
  | none => unfold Lx.part at hb; rw [hy] at hb; cases hb
  | some y =>
    by_cases hy9 : y.kind = 9
    · obtain ⟨_, _, _, _, _, _, _, _, rfl⟩ := Lx.part_dot hy hy9 hb
      rw [(Lx.dot_text (hr y (List.mem_of_getElem? hy)) hy9).2]
      exact .inr (.inr (Lx.nx_cons _ _))
    · rcases Lx.part_plain hy hy9 hb with ⟨h, _⟩ | ⟨i, p, hi, hp, rfl⟩
      · omega
      · obtain rfl : i = k := by omega
        rw [hx] at hp; cases hp
        rw [if_neg h9]
        exact .inr (.inl (Lx.nx_cons _ _))

theorem Lx.divs_print {l : List Tok} {s : Lx.Bs} (hl : l.length ≤ 6000) (hr : ∀ x ∈ l, Lx.right x = true) (hs : Lx.printTo l l.length = some s) :
    ∀ (d k : Nat), k + d = l.length → ∀ (a r : Lx.Bs), Lx.printTo l k = some a → s = a ++ r → ∀ (f : Nat) (line col name : Int), r.length < f → 0 ≤ name → name ≤ a.length →
      (∀ (i : Nat) (p : Tok), k = i + 1 → l[i]? = some p → p.kind = 1 → name = a.length) → (0 < k → 0 < a.length) → (k = 0 → a = []) →
      ∃ ps, Lx.divs f a.length r line col name k = (ps, none) ∧ (ps.map tkOf).map Tok.bare = (l.drop k).map Tok.bare := by
  intro d
  induction d with
  | zero =>
    intro k hk a r ha hsr f line col name hf _ _ _ _ _
    obtain rfl : k = l.length := by omega
    rw [hs] at ha; cases ha
    have hr0 : r = [] := by
      have := congrArg List.length hsr; simp at this; exact this
    subst hr0
    obtain ⟨f, rfl⟩ : ∃ g, f = g + 1 := ⟨f - 1, by simp at hf; omega⟩
    refine ⟨[], ?_, by simp⟩
    rw [divs_succ, Lx.pas_nil]; simp
  | succ d ih =>
    intro k hk a r ha hsr f line col name hf hn0 hna hname hka hk0
    obtain ⟨b, r', hb, rfl, hpk, hsb⟩ := Lx.printTo_step hs (by omega) ha hsr
    obtain ⟨x, hx⟩ : ∃ x, l[k]? = some x := ⟨l[k]'(by omega), by simp⟩
    have hxr := hr x (List.mem_of_getElem? hx)
    have hne := Lx.spelled_ne hxr
    have hlen : 1 ≤ (Lx.spelled x).length := List.length_pos_iff.2 hne
    obtain ⟨f, rfl⟩ : ∃ g, f = g + 1 := ⟨f - 1, by omega⟩
    have hdrop : l.drop k = x :: l.drop (k + 1) := by
      obtain ⟨hlt, rfl⟩ := List.getElem?_eq_some_iff.1 hx
      exact List.drop_eq_getElem_cons hlt
    -- what the token is read as
    have key : ∃ (sp : Lx.Bs) (j : Bool), b = sp ++ Lx.spelled x ∧ (sp = [] ∨ sp = [32]) ∧ Lx.joined (a.length + sp.length) name = j ∧ Lx.tok j (Lx.spelled x ++ r') = .good x.kind x.text (Lx.spelled x).length := by
      by_cases h9 : x.kind = 9
      · obtain ⟨hx46, hsp⟩ := Lx.dot_text hxr h9
        obtain ⟨i', p, y, hki, hp, hp1, hy, hc, rfl⟩ := Lx.part_dot hx h9 hb
        have hn := hname i' p hki hp hp1
        refine ⟨[], true, rfl, .inl rfl, ?_, ?_⟩
        · have := hka (by omega)
          unfold Lx.joined
          simp only [List.length_nil, Nat.add_zero, hn, beq_self_eq_true, Bool.and_true, decide_eq_true_eq]
          omega
        · have hlt : k + 1 < l.length := (List.getElem?_eq_some_iff.1 hy).1
          obtain ⟨b2, r2, hb2, hr2, _, _⟩ := Lx.printTo_step hs (by omega) hpk hsb
          have hyr := hr y (List.mem_of_getElem? hy)
          have hby : b2 = Lx.spelled y := by
            by_cases hy9 : y.kind = 9
            · obtain ⟨_, _, _, _, _, _, _, _, h⟩ := Lx.part_dot hy hy9 hb2; exact h
            · rcases Lx.part_plain hy hy9 hb2 with ⟨h, _⟩ | ⟨i, p2, hi, hp2, h⟩
              · omega
              · obtain rfl : i = k := by omega
                rw [hx] at hp2; cases hp2
                rw [h, if_pos h9]; rfl
          rw [hsp, hr2, hby, h9, hx46]
          exact Lx.tok_dot (r := Lx.spelled y ++ r2) (by rw [Lx.nx_app (Lx.spelled_ne hyr)]; exact hc)
      · have hfol : Lx.follow r' := by
          by_cases hk1 : k + 1 = l.length
          · rw [hk1] at hpk
            rw [hs] at hpk
            have hab := Option.some.inj hpk
            have hz := congrArg List.length hsb
            rw [hab, List.length_append] at hz
            have : r' = [] := List.length_eq_zero_iff.1 (by simp only [List.length_append] at hz; omega)
            rw [this]; exact .inl rfl
          · obtain ⟨b2, r2, hb2, hr2, _, _⟩ := Lx.printTo_step hs (by omega) hpk hsb
            rw [hr2]; exact Lx.part_follow hx h9 hr hb2 r2
        rcases Lx.part_plain hx h9 hb with ⟨h0, rfl⟩ | ⟨i', p, hki, hp, rfl⟩
        · refine ⟨[], false, rfl, .inl rfl, ?_, Lx.tok_right hxr h9 hfol (.inl rfl)⟩
          rw [hk0 h0]; simp [Lx.joined]
        · by_cases hp9 : p.kind = 9
          · rw [if_pos hp9]
            have hd : Lx.nx (Lx.spelled x) 0 ≠ 46 := by
              obtain ⟨a0, r0, ha0, hs0⟩ := Lx.printTo_split l.length s hs i' (by omega)
              obtain ⟨b0, _, hb0, _, _, _⟩ := Lx.printTo_step hs (by omega) ha0 hs0
              obtain ⟨_, _, y, _, _, _, hy, hc, _⟩ := Lx.part_dot hp hp9 hb0
              rw [← hki, hx] at hy
              cases hy
              intro e
              rw [e] at hc
              exact absurd hc (by decide)
            exact ⟨[], _, rfl, .inl rfl, rfl, Lx.tok_right hxr h9 hfol (.inr hd)⟩
          · rw [if_neg hp9]
            refine ⟨[32], false, rfl, .inr rfl, ?_, Lx.tok_right hxr h9 hfol (.inl rfl)⟩
            unfold Lx.joined
            simp only [List.length_cons, List.length_nil, Bool.and_eq_false_iff, beq_eq_false_iff_ne, ne_eq]
            right; omega
    obtain ⟨sp, j, rfl, hsp, hj, htok⟩ := key
    have hpas : Lx.pas 0 none (sp ++ Lx.spelled x ++ r') = .at sp.length := by
      have h0 := Lx.pas_tok htok
      rcases hsp with rfl | rfl
      · exact h0
      · show Lx.pas 0 none (32 :: (Lx.spelled x ++ r')) = .at 1
        rw [Lx.pas, if_pos (by decide)]
        obtain ⟨h1, h2⟩ := Lx.tok_first htok
        refine Lx.pas_stop h1 ?_
        intro c l' e; rw [e, Lx.nx_cons] at h2; exact h2
    have hd1 : (sp ++ Lx.spelled x ++ r').drop sp.length = Lx.spelled x ++ r' := by rw [List.append_assoc, List.drop_left]
    have hd2 : (Lx.spelled x ++ r').drop (Lx.spelled x).length = r' := List.drop_left
    have hk6 : k < 6000 := by omega
    have hsl : sp.length ≤ 1 := by rcases hsp with rfl | rfl <;> simp
    have hal : a.length + sp.length + (Lx.spelled x).length = (a ++ (sp ++ Lx.spelled x)).length := by simp; omega
    obtain ⟨ps, hps, hmap⟩ := ih (k + 1) (by omega) (a ++ (sp ++ Lx.spelled x)) r' hpk hsb f
      (Lx.adv ((Lx.spelled x ++ r').take (Lx.spelled x).length) (Lx.adv ((sp ++ Lx.spelled x ++ r').take sp.length) (line, col))).1
      (Lx.adv ((Lx.spelled x ++ r').take (Lx.spelled x).length) (Lx.adv ((sp ++ Lx.spelled x ++ r').take sp.length) (line, col))).2
      (if x.kind = 1 then (((a ++ (sp ++ Lx.spelled x)).length : Nat) : Int) else name) (by rw [List.length_append, List.length_append] at hf; omega) (by split <;> omega)
      (by split <;> (rw [← hal]; omega))
      (by
        intro i p hi hp hp1
        obtain rfl : i = k := by omega
        rw [hx] at hp; cases hp
        rw [if_pos hp1]) (by intro _; rw [← hal]; omega) (by intro h; omega)
    refine ⟨⟨x.kind, x.text, (Lx.adv ((sp ++ Lx.spelled x ++ r').take sp.length) (line, col)).1, (Lx.adv ((sp ++ Lx.spelled x ++ r').take sp.length) (line, col)).2, a.length + sp.length, a.length + sp.length + (Lx.spelled x).length⟩ :: ps, ?_, ?_⟩
    · rw [divs_succ, hpas]
      simp only [hd1]
      rw [if_neg (by intro e; rw [List.append_eq_nil_iff] at e; exact hne e.1), hj, htok]
      simp only [hd2]
      rw [if_pos hk6, hal, hps]
    · rw [hdrop, List.map_cons, List.map_cons, List.map_cons, hmap]
      rfl

/-- What is printed is read as tokens that are the same. -/
theorem Lx.print_read {l : List Tok} {s : Lx.Bs} (h : Lx.print l = (s, 0)) : ∃ ps, Lx.dv s = (ps, 0, 0) ∧ eqBy Tok.alike l (ps.map tkOf) = true := by
  unfold Lx.print at h
  split at h
  · rename_i hc; simp only [Prod.mk.injEq] at h; exact absurd h.2 hc
  · rename_i hc
    obtain ⟨hl, hr⟩ := Lx.check_right (Decidable.not_not.1 hc)
    split at h
    · simp at h
    · rename_i s' hs
      split at h
      · simp at h
      · rename_i hsl
        simp only [Prod.mk.injEq, and_true] at h
        subst h
        obtain ⟨ps, hps, hm⟩ := Lx.divs_print hl hr hs l.length 0 (by omega) [] s' rfl rfl (s'.length + 1) 1 1 0 (by omega) (by omega) (by simp) (by intro i p h; omega) (by omega) (fun _ => rfl)
        refine ⟨ps, ?_, alike_bare _ _ (by rw [hm]; simp)⟩
        unfold Lx.dv Lx.divide
        rw [if_pos (by omega)]
        have hps' : Lx.divs (s'.length + 1) 0 s' 1 1 0 0 = (ps, none) := hps
        rw [hps']

theorem Lx.tok_nine {j : Bool} {l : Lx.Bs} {tx : Lx.Bs} {m : Nat} (h : Lx.tok j l = .good 9 tx m) : j = true ∧ m = 1 ∧ (Lx.letter (Lx.nx l 1) || Lx.isop (Lx.nx l 1)) = true := by
  unfold Lx.tok Lx.wordT Lx.primT Lx.numT Lx.opT Lx.strT Lx.signT at h
  simp only at h
  repeat' split at h
  all_goals first | (cases h; done) | skip
  all_goals first | (simp only [Tk.good.injEq] at h; exfalso; have := Lx.colon_or l (Lx.run Lx.wordy l : Int); omega) | skip
  all_goals
    rename_i hc
    simp only [Tk.good.injEq] at h
    exact ⟨hc.2.1, h.2.2.symm, by simpa using hc.2.2⟩

theorem Lx.divs_dot (f : Nat) : ∀ (a : Nat) (l : Lx.Bs) (line col name : Int) (many : Nat) (ps : List Lx.Pc), l.length < f → Lx.divs f a l line col name many = (ps, none) → name ≤ a → ∀ (k : Nat) (p : Lx.Pc), ps[k]? = some p → p.kind = 9 →
    (∃ q, ps[k + 1]? = some q ∧ (Lx.letter (Lx.nx (Lx.spelled (tkOf q)) 0) || Lx.isop (Lx.nx (Lx.spelled (tkOf q)) 0)) = true) ∧ (k = 0 → name = a) ∧ (∀ (i : Nat) (q : Lx.Pc), k = i + 1 → ps[i]? = some q → q.kind = 1) := by
  induction f with
  | zero => intro a l line col name many ps h; omega
  | succ f ih =>
    intro a l line col name many ps hf h hna k p hk h9
    rw [divs_succ] at h
    cases hpa : Lx.pas 0 none l with
    | «open» n => rw [hpa] at h; simp at h
    | «at» n =>
      rw [hpa] at h
      simp only at h
      by_cases hne : l.drop n = []
      · rw [if_pos hne] at h
        simp only [Prod.mk.injEq] at h
        rw [← h.1] at hk; simp at hk
      · rw [if_neg hne] at h
        cases htk : Lx.tok (Lx.joined (a + n) name) (l.drop n) with
        | bad e => rw [htk] at h; simp at h
        | good k0 tx m =>
          rw [htk] at h
          simp only at h
          split at h
          · rename_i hmany
            have hfit := Lx.tok_fits hne htk
            rw [List.length_drop] at hfit
            obtain ⟨⟨rest, er⟩, hrest⟩ : ∃ r, Lx.divs f (a + n + m) ((l.drop n).drop m) (Lx.adv ((l.drop n).take m) (Lx.adv (l.take n) (line, col))).1 (Lx.adv ((l.drop n).take m) (Lx.adv (l.take n) (line, col))).2 (if k0 = 1 then ((a + n + m : Nat) : Int) else name) (many + 1) = r := ⟨_, rfl⟩
            rw [hrest] at h
            simp only [Prod.mk.injEq] at h
            obtain ⟨hps, rfl⟩ := h
            have hl2 : ((l.drop n).drop m).length < f := by simp only [List.length_drop]; omega
            cases k with
            | zero =>
              rw [← hps] at hk
              simp only [List.getElem?_cons_zero, Option.some.injEq] at hk
              subst hk
              simp only at h9
              subst h9
              obtain ⟨hj, rfl, hlo⟩ := Lx.tok_nine htk
              unfold Lx.joined at hj
              simp only [Bool.and_eq_true, decide_eq_true_eq, beq_iff_eq] at hj
              refine ⟨?_, fun _ => by omega, fun i q hi => by omega⟩
              -- the next token begins at once
              have hnx : Lx.nx ((l.drop n).drop 1) 0 = Lx.nx (l.drop n) 1 := by
                cases l.drop n with
                | nil => rfl
                | cons b t => simp [Lx.nx]
              obtain ⟨l', hl'⟩ : ∃ l', l' = (l.drop n).drop 1 := ⟨_, rfl⟩
              rw [← hl'] at hrest hnx hl2
              have hne' : l' ≠ [] := by
                intro e
                rw [e] at hnx
                rw [← hnx] at hlo
                exact absurd hlo (by decide)
              obtain ⟨f, rfl⟩ : ∃ g, f = g + 1 := ⟨f - 1, by omega⟩
              have hpas : Lx.pas 0 none l' = .at 0 := by
                refine Lx.pas_stop ?_ ?_
                · intro e; rw [← hnx, e] at hlo; exact absurd hlo (by decide)
                · rintro b t rfl
                  rw [Lx.nx_cons] at hnx
                  rw [← hnx] at hlo
                  cases hb : Lx.blank b with
                  | false => rfl
                  | true =>
                    exfalso
                    simp only [Lx.blank, Bool.or_eq_true, beq_iff_eq] at hb
                    rcases hb with (hb | hb) | hb
                    · obtain rfl : b = 32 := (byte_is (n := 32) (by omega)).trans rfl
                      exact absurd hlo (by decide)
                    · obtain rfl : b = 9 := (byte_is (n := 9) (by omega)).trans rfl
                      exact absurd hlo (by decide)
                    · obtain rfl : b = 10 := (byte_is (n := 10) (by omega)).trans rfl
                      exact absurd hlo (by decide)
              rw [divs_succ, hpas] at hrest
              simp only [List.drop_zero] at hrest
              rw [if_neg hne'] at hrest
              split at hrest
              · simp at hrest
              · rename_i k1 tx1 m1 htk1
                split at hrest
                · simp only [Prod.mk.injEq] at hrest
                  rw [← hps, ← hrest.1]
                  refine ⟨_, rfl, ?_⟩
                  have hsp := (Lx.tok_spelled hne' htk1 (Lx.adv (List.take 0 l') ((Lx.adv (List.take 1 (l.drop n)) (Lx.adv (List.take n l) (line, col))).1, (Lx.adv (List.take 1 (l.drop n)) (Lx.adv (List.take n l) (line, col))).2)).1 (Lx.adv (List.take 0 l') ((Lx.adv (List.take 1 (l.drop n)) (Lx.adv (List.take n l) (line, col))).1, (Lx.adv (List.take 1 (l.drop n)) (Lx.adv (List.take n l) (line, col))).2)).2).1
                  have hm1 := (Lx.tok_fits hne' htk1).1
                  unfold tkOf
                  simp only
                  rw [hsp, Lx.nx_in (by simp; omega), hnx]
                  exact hlo
                · simp at hrest
            | succ k =>
              rw [← hps] at hk
              simp only [List.getElem?_cons_succ] at hk
              obtain ⟨h1, h2, h3⟩ := ih _ _ _ _ _ _ _ hl2 hrest (by split <;> omega) k p hk h9
              refine ⟨?_, fun h => by omega, ?_⟩
              · obtain ⟨q, hq, hlo⟩ := h1
                exact ⟨q, by rw [← hps]; simpa using hq, hlo⟩
              · intro i q hi hq
                obtain rfl : i = k := by omega
                rw [← hps] at hq
                cases i with
                | zero =>
                  simp only [List.getElem?_cons_zero, Option.some.injEq] at hq
                  have := h2 rfl
                  rw [← hq]
                  simp only
                  by_cases hk0 : k0 = 1
                  · exact hk0
                  · rw [if_neg hk0] at this; omega
                | succ i =>
                  simp only [List.getElem?_cons_succ] at hq
                  exact h3 i q rfl hq
          · simp at h

theorem Lx.print_len {l : List Tok} {s : Lx.Bs} (h : Lx.print l = (s, 0)) : s.length ≤ 20000 := by
  unfold Lx.print at h
  split at h
  · rename_i hc; simp only [Prod.mk.injEq] at h; exact absurd h.2 hc
  · split at h
    · simp at h
    · split at h
      · simp at h
      · simp only [Prod.mk.injEq, and_true] at h
        subst h; omega

/-- No text begins with a dot that joins. -/
theorem Lx.divs_dot0 {g : Nat} {s : Lx.Bs} {ps : List Lx.Pc} {p : Lx.Pc} (hg : s.length < g) (h : Lx.divs g 0 s 1 1 0 0 = (ps, none)) (hp : ps[0]? = some p) : p.kind ≠ 9 := by
  obtain ⟨g, rfl⟩ : ∃ g', g = g' + 1 := ⟨g - 1, by omega⟩
  intro h9
  rw [divs_succ] at h
  cases hpa : Lx.pas 0 none s with
  | «open» n => rw [hpa] at h; simp at h
  | «at» n =>
    rw [hpa] at h
    simp only at h
    by_cases hne : s.drop n = []
    · rw [if_pos hne] at h
      simp only [Prod.mk.injEq] at h
      rw [← h.1] at hp; simp at hp
    · rw [if_neg hne] at h
      cases htk : Lx.tok (Lx.joined (0 + n) 0) (s.drop n) with
      | bad e => rw [htk] at h; simp at h
      | good k0 tx m =>
        rw [htk] at h
        simp only at h
        split at h
        · simp only [Prod.mk.injEq] at h
          rw [← h.1] at hp
          simp only [List.getElem?_cons_zero, Option.some.injEq] at hp
          subst hp
          simp only at h9
          subst h9
          have := (Lx.tok_nine htk).1
          unfold Lx.joined at this
          simp only [Bool.and_eq_true, decide_eq_true_eq, beq_iff_eq] at this
          omega
        · simp at h

/-- What was read can be printed, unless it is too long. -/
theorem Lx.print_again {s : Lx.Bs} {ps : List Lx.Pc} {a : Nat} (h : Lx.dv s = (ps, 0, a)) : Lx.check (ps.map tkOf) = 0 ∧
    (Lx.print (ps.map tkOf) = ([], 2) ∨ ∃ t qs, Lx.print (ps.map tkOf) = (t, 0) ∧ Lx.dv t = (qs, 0, 0) ∧ eqBy Tok.alike (ps.map tkOf) (qs.map tkOf) = true) := by
  have hr : ∀ x ∈ ps.map tkOf, Lx.right x = true := by
    intro x hx
    obtain ⟨p, hp, rfl⟩ := List.mem_map.1 hx
    exact Lx.dv_right (t := s) (by rw [h]; exact hp)
  have hl := Lx.dv_len s
  rw [h] at hl
  simp only at hl
  have hc : Lx.check (ps.map tkOf) = 0 := by
    unfold Lx.check
    rw [if_neg (by rw [List.length_map]; omega), if_neg]
    simp only [List.any_eq_true, not_exists, not_and, Bool.not_eq_true']
    intro x hx
    simp [hr x hx]
  refine ⟨hc, ?_⟩
  have hd : ∃ g, s.length < g ∧ Lx.divs g 0 s 1 1 0 0 = (ps, none) ∨ ps = [] := by
    unfold Lx.dv at h
    split at h
    · rename_i hn
      simp only [Prod.mk.injEq] at h
      unfold Lx.divide at h hn
      split at h
      · rename_i ht
        rw [if_pos ht] at hn
        exact ⟨s.length + 1, .inl ⟨by omega, by rw [← h.1, ← hn]⟩⟩
      · exact ⟨0, .inr h.1.symm⟩
    · rename_i er q hn
      simp only [Prod.mk.injEq] at h
      exact ⟨0, .inr h.1.symm⟩
  have hparts : ∀ k, k < (ps.map tkOf).length → Lx.part (ps.map tkOf) k ≠ none := by
    intro k hk
    rw [List.length_map] at hk
    obtain ⟨g, ⟨hg, hd⟩ | rfl⟩ := hd
    · obtain ⟨p, hp⟩ : ∃ p, ps[k]? = some p := ⟨ps[k], by simp⟩
      have hx : (ps.map tkOf)[k]? = some (tkOf p) := by simp [hp]
      unfold Lx.part
      rw [hx]
      simp only
      by_cases h9 : p.kind = 9
      · obtain ⟨⟨q, hq, hlo⟩, h0, hpr⟩ := Lx.divs_dot g 0 s 1 1 0 0 ps hg hd (by omega) k p hp h9
        rw [if_pos (show (tkOf p).kind = 9 from h9)]
        cases k with
        | zero =>
          -- a text does not begin with a dot that joins
          exfalso
          have := Lx.divs_dot0 hg hd hp
          exact this h9
        | succ i =>
          obtain ⟨p', hp'⟩ : ∃ p', ps[i]? = some p' := ⟨ps[i]'(by omega), by simp⟩
          have hy : (ps.map tkOf)[i + 1 + 1]? = some (tkOf q) := by simp [hq]
          have hx' : (ps.map tkOf)[i]? = some (tkOf p') := by simp [hp']
          rw [hy]
          simp only [hx']
          rw [if_pos ⟨show (tkOf p').kind = 1 from hpr i p' rfl hp', hlo⟩]
          simp
      · rw [if_neg (show ¬ (tkOf p).kind = 9 from h9)]
        cases k with
        | zero => simp
        | succ i =>
          obtain ⟨p', hp'⟩ : ∃ p', ps[i]? = some p' := ⟨ps[i]'(by omega), by simp⟩
          have hx' : (ps.map tkOf)[i]? = some (tkOf p') := by simp [hp']
          simp [hx']
    · simp at hk
  have hto : ∀ k, k ≤ (ps.map tkOf).length → ∃ t, Lx.printTo (ps.map tkOf) k = some t := by
    intro k
    induction k with
    | zero => intro _; exact ⟨[], rfl⟩
    | succ k ih =>
      intro hk
      obtain ⟨t, ht⟩ := ih (by omega)
      cases hb : Lx.part (ps.map tkOf) k with
      | none => exact absurd hb (hparts k (by omega))
      | some b => exact ⟨t ++ b, by simp only [Lx.printTo, ht, hb]⟩
  obtain ⟨t, ht⟩ := hto _ (Nat.le_refl _)
  have hp : Lx.print (ps.map tkOf) = if 20000 < t.length then ([], 2) else (t, 0) := by
    unfold Lx.print
    rw [if_neg (by simp [hc]), ht]
  by_cases hlt : 20000 < t.length
  · left; rw [hp, if_pos hlt]
  · right
    rw [if_neg hlt] at hp
    obtain ⟨qs, h1, h2⟩ := Lx.print_read hp
    exact ⟨t, qs, hp, h1, h2⟩

end Go.Proofs.YtogmealngeejmaaDoor
