/- The lexer: words. -/
import Derived.Test.YtogmealngeejmaaDoorLexC
namespace Go.Proofs.YtogmealngeejmaaDoor
open Go Go.RowKit

/-- What reading a token comes to, in memory; nm: the index behind the last name. -/
def RdPost (r : Nat) (t : ByteArray) (a : Nat) (l : Lx.Bs) (line col : Int) (nm : Int → Nat → Int) (w : World) (x : Lx.Tk) (e : Ending) (w' : World) : Prop :=
  Kp [r] w w' ∧ match x with
    | .good k tx n => e = .returned (.tuple #[.int .i64 k, .string ⟨tx.toArray⟩]) ∧ RdL w' r t (a + n) (l.drop n) (Lx.adv (l.take n) (line, col)).1 (Lx.adv (l.take n) (line, col)).2 (nm k n)
    | .bad er => e = .panicked [{ v := .iface 85 (.agg #[.int .i64 er, .int .i64 a]), recovered := false }]

theorem enters_isWord : Proofs.Enters Tryd.prog 84 := Proofs.enters_of Tryd.func84 (by kernel_rfl) rfl

theorem small_of {b : UInt8} {x : Bool} (h : Lx.small b = x) (w : World) : Calls Tryd.prog 47 #[.int .u8 b.toNat] w fun e w' => e = .returned (.bool x) ∧ w = w' := by rw [← h]; exact isSmall_c b w
theorem large_of {b : UInt8} {x : Bool} (h : Lx.large b = x) (w : World) : Calls Tryd.prog 48 #[.int .u8 b.toNat] w fun e w' => e = .returned (.bool x) ∧ w = w' := by rw [← h]; exact isLarge_c b w

set_option maxRecDepth 100000 in
set_option maxHeartbeats 1000000 in
theorem word_c {w : World} {r : Nat} {t : ByteArray} {a : Nat} {l : Lx.Bs} {line col name : Int} (h : RdL w r t a l line col name) :
    Calls Tryd.prog 66 #[.pointer (some ⟨r, 0, none⟩)] w (RdPost r t a l line col (fun k n => if k = 1 then ((a + n : Nat) : Int) else name) w (Lx.wordT l)) := by
  have hlen := h.length
  have hsz := h.size
  have hlt := h.lt
  have hrun := Lx.run_le Lx.wordy l
  obtain ⟨n, hn⟩ : ∃ n, n = Lx.run Lx.wordy l := ⟨_, rfl⟩
  rw [← hn] at hrun
  obtain ⟨P0, hP0⟩ : ∃ P0, P0 = RdPost r t a l line col (fun k n => if k = 1 then ((a + n : Nat) : Int) else name) w (Lx.wordT l) := ⟨_, rfl⟩
  rw [← hP0]
  have HP0 := Lib.hid hP0; clear hP0
  have HN := Lib.hid hn; clear hn
  go_enter Tryd.func66, Tryd.ntmps66
  go_wp2_with fail
  refine (rest_l h).mono ?_
  rintro e w1 ⟨⟨v, rfl, hv⟩, hk1⟩
  go_wp2_with fail
  refine (runB_c 84 Lx.wordy v l w1 hv (by omega) enters_isWord isWord_c).mono ?_
  rintro e w1' ⟨rfl, rfl⟩
  rw [← HN.out]
  have h1 := h.keep hk1 (by simp)
  go_wp2_with fail
  refine (colon_l n h1 (by omega) (by omega)).mono ?_
  rintro e w2 ⟨rfl, m, rfl⟩
  have h2 := h1.drew m
  have hk2 : Kp [r] w (w1.drewN m) := (hk1.drewN m).nil
  obtain ⟨w2, hw2⟩ : ∃ w2, w2 = w1.drewN m := ⟨_, rfl⟩
  rw [← hw2] at h2 hk2 ⊢
  obtain ⟨c, hc⟩ : ∃ c, c = Lx.colon l n := ⟨_, rfl⟩
  rw [← hc]
  have HC := Lib.hid hc; clear hc hw2
  have fa := h2.rdr.facts.1
  have hwT : Lx.wordT l = if (n : Int) ≤ 24 ∧ (Lx.small (Lx.nx l 0) = true ∨ c = 1) then .good (if Lx.large (Lx.nx l 0) = true then 3 else 1 + c) (l.take ((n : Int) + c).toNat) ((n : Int) + c).toNat else .bad 12 := by
    unfold Lx.wordT; rw [← HN.out]; simp only [← HC.out]
  have HW := Lib.hid hwT; clear hwT
  have hc01 : c = 0 ∨ c = 1 := by rw [HC.out]; exact Lx.colon_or l n
  have hfit : c = 1 → n < l.length := fun e => Lx.colon_lt (e.symm.trans HC.out)
  cases hz : decide ((n : Int) ≤ 24)
  · -- too long
    clear hc01 hfit
    go_wp2_with fail
    refine wp_draw_tail 16 (by kernel_rfl) (by kernel_rfl) ?_
    simp only [List.take_succ_cons, List.take_zero, List.drop_succ_cons, List.drop_zero]
    iterate 16 (go_big_quiet_step (first | (go_at_call 61; exact Calls.quiet_of (next_l 0 (h2.drew _) (by omega) (by omega))) | (go_at_call 47; exact quiet_same (hs _))))
    refine wpQuiet_nil ?_
    intro _ hw'
    obtain ⟨nq, hw''⟩ := hw'
    subst hw''
    go_wp2_with fail
    refine (need_no 12 a _).mono ?_
    rintro e w3 ⟨rfl, rfl⟩
    go_wp2
    refine ⟨rfl, ?_⟩
    rw [HP0.out, HW.out, if_neg (by simp at hz; omega)]
    exact ⟨hk2.drewN _, rfl⟩
  · cases hsm : Lx.small (Lx.nx l 0)
    all_goals
      have hs := small_of hsm
      have HS := Lib.hid hsm; clear hsm
      rcases hc01 with rfl | rfl
    · -- no small letter, no colon
      clear hfit
      go_wp2_with fail
      refine wp_draw_tail 16 (by kernel_rfl) (by kernel_rfl) ?_
      simp only [List.take_succ_cons, List.take_zero, List.drop_succ_cons, List.drop_zero]
      iterate 16 (go_big_quiet_step (first | (go_at_call 61; exact Calls.quiet_of (next_l 0 (h2.drew _) (by omega) (by omega))) | (go_at_call 47; exact quiet_same (hs _))))
      refine wpQuiet_nil ?_
      intro _ hw'
      obtain ⟨nq, hw''⟩ := hw'
      subst hw''
      go_wp2_with fail
      refine (need_no 12 a _).mono ?_
      rintro e w3 ⟨rfl, rfl⟩
      go_wp2
      refine ⟨rfl, ?_⟩
      rw [HP0.out, HW.out, if_neg (by rw [HS.out]; simp)]
      exact ⟨hk2.drewN _, rfl⟩
    all_goals
      have hfit' : (n : Int) + 1 ≤ l.length ∨ (n : Int) + 0 ≤ l.length := by omega
      cases hlg : Lx.large (Lx.nx l 0)
      all_goals
        have hg := large_of hlg
        have HG := Lib.hid hlg; clear hlg
        have HF := Lib.hid hfit; clear hfit
        clear hfit'
        go_wp2_with fail
        refine wp_draw_tail 16 (by kernel_rfl) (by kernel_rfl) ?_
        simp only [List.take_succ_cons, List.take_zero, List.drop_succ_cons, List.drop_zero]
        iterate 16 (go_big_quiet_step (first | (go_at_call 61; exact Calls.quiet_of (next_l 0 (h2.drew _) (by omega) (by omega))) | (go_at_call 47; exact quiet_same (hs _))))
        refine wpQuiet_nil ?_
        intro _ hw'
        obtain ⟨nq, hw''⟩ := hw'
        subst hw''
        go_wp2_with fail
        refine (need_yes 12 a _).mono ?_
        rintro e w3 ⟨rfl, rfl⟩
        go_wp2_with fail
        refine (next_l 0 (h2.drew _) (by omega) (by omega)).mono ?_
        rintro e w4 ⟨rfl, m4, rfl⟩
        go_wp2_with fail
        refine (hg _).mono ?_
        rintro e w5 ⟨rfl, rfl⟩
        go_wp2_with fail
        refine (forward_l _ (h2.drew _) (by omega) (by first | omega | (have := HF.out (by first | rfl | trivial); omega))).mono ?_
        rintro e w6 ⟨rfl, h6, hk6⟩
        obtain ⟨f0, f1, f2, f3, f4, fz, hlt6⟩ := h6.rdr.facts
        have hk7 : Kp [r] w w6 := (hk2.drewN _).trans hk6
        go_wp2
        rw [HP0.out, HW.out, if_pos ⟨by simp at hz; omega, by first | exact .inl HS.out | exact .inr (by first | rfl | trivial)⟩, HG.out]
        first
          | exact ⟨hk7, by simp, h6⟩
          | exact ⟨hk7, by simp, by simpa using h6⟩
          | (have h7 := h6.name' ((a : Int) + n); exact ⟨hk7.setCell (by simp) _, by simp, by simpa using h7⟩)

end Go.Proofs.YtogmealngeejmaaDoor
