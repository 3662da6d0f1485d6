/- The lexer: numbers, operators, primitives. -/
import Derived.Test.YtogmealngeejmaaDoorLexD
namespace Go.Proofs.YtogmealngeejmaaDoor
open Go Go.RowKit

theorem enters_isDigit : Proofs.Enters Tryd.prog 69 := Proofs.enters_of Tryd.func69 (by kernel_rfl) rfl
theorem enters_isOp : Proofs.Enters Tryd.prog 31 := Proofs.enters_of Tryd.func31 (by kernel_rfl) rfl

set_option maxRecDepth 100000 in
set_option maxHeartbeats 1000000 in
theorem op_c {w : World} {r : Nat} {t : ByteArray} {a : Nat} {l : Lx.Bs} {line col name : Int} (h : RdL w r t a l line col name) :
    Calls Tryd.prog 73 #[.pointer (some ⟨r, 0, none⟩)] w (RdPost r t a l line col (fun _ _ => name) w (Lx.opT l)) := by
  have hlen := h.length
  have hsz := h.size
  have hlt := h.lt
  have hrun := Lx.run_le Lx.isop l
  have hwT : Lx.opT l = if ((Lx.run Lx.isop l : Nat) : Int) ≤ 3 then .good 7 (l.take (Lx.run Lx.isop l)) (Lx.run Lx.isop l) else .bad 12 := rfl
  obtain ⟨n, hn⟩ : ∃ n, n = Lx.run Lx.isop l := ⟨_, rfl⟩
  rw [← hn] at hrun hwT
  obtain ⟨P0, hP0⟩ : ∃ P0, P0 = RdPost r t a l line col (fun _ _ => name) w (Lx.opT l) := ⟨_, rfl⟩
  rw [← hP0]
  have HP0 := Lib.hid hP0; clear hP0
  have HN := Lib.hid hn; clear hn
  have HW := Lib.hid hwT; clear hwT
  go_enter Tryd.func73, Tryd.ntmps73
  go_wp2_with fail
  refine (rest_l h).mono ?_
  rintro e w1 ⟨⟨v, rfl, hv⟩, hk1⟩
  go_wp2_with fail
  refine (runB_c 31 Lx.isop v l w1 hv (by omega) enters_isOp isOp_c).mono ?_
  rintro e w1' ⟨rfl, rfl⟩
  rw [← HN.out]
  have h1 := h.keep hk1 (by simp)
  have fa := h1.rdr.facts.1
  cases hz : decide ((n : Int) ≤ 3)
  · go_wp2_with fail
    refine (need_no 12 a _).mono ?_
    rintro e w3 ⟨rfl, rfl⟩
    go_wp2
    refine ⟨rfl, ?_⟩
    rw [HP0.out, HW.out, if_neg (by simp at hz; omega)]
    exact ⟨hk1.nil, rfl⟩
  · go_wp2_with fail
    refine (need_yes 12 a _).mono ?_
    rintro e w3 ⟨rfl, rfl⟩
    go_wp2_with fail
    refine (forward_l _ h1 (by omega) (by omega)).mono ?_
    rintro e w6 ⟨rfl, h6, hk6⟩
    go_wp2
    rw [HP0.out, HW.out, if_pos (by simp at hz; omega)]
    exact ⟨hk1.nil.trans hk6, by simp, by simpa using h6⟩

set_option maxRecDepth 100000 in
set_option maxHeartbeats 1000000 in
theorem number_c {w : World} {r : Nat} {t : ByteArray} {a : Nat} {l : Lx.Bs} {line col name : Int} (h : RdL w r t a l line col name) :
    Calls Tryd.prog 70 #[.pointer (some ⟨r, 0, none⟩)] w (RdPost r t a l line col (fun _ _ => name) w (Lx.numT l)) := by
  have hlen := h.length
  have hsz := h.size
  have hlt := h.lt
  have hrun := Lx.run_le Lx.digit l
  have hwT : Lx.numT l = if ((Lx.run Lx.digit l : Nat) : Int) ≤ 400 ∧ (((Lx.run Lx.digit l : Nat) : Int) = 1 ∨ Lx.nx l 0 ≠ 48) then .good 5 (l.take (Lx.run Lx.digit l)) (Lx.run Lx.digit l) else .bad 12 := rfl
  obtain ⟨n, hn⟩ : ∃ n, n = Lx.run Lx.digit l := ⟨_, rfl⟩
  rw [← hn] at hrun hwT
  obtain ⟨P0, hP0⟩ : ∃ P0, P0 = RdPost r t a l line col (fun _ _ => name) w (Lx.numT l) := ⟨_, rfl⟩
  rw [← hP0]
  have HP0 := Lib.hid hP0; clear hP0
  have HN := Lib.hid hn; clear hn
  have HW := Lib.hid hwT; clear hwT
  go_enter Tryd.func70, Tryd.ntmps70
  go_wp2_with fail
  refine (rest_l h).mono ?_
  rintro e w1 ⟨⟨v, rfl, hv⟩, hk1⟩
  go_wp2_with fail
  refine (runB_c 69 Lx.digit v l w1 hv (by omega) enters_isDigit isDigit_c).mono ?_
  rintro e w1' ⟨rfl, rfl⟩
  rw [← HN.out]
  have h1 := h.keep hk1 (by simp)
  have fa := h1.rdr.facts.1
  cases hz : decide ((n : Int) ≤ 400)
  · go_wp2_with fail
    refine wp_draw_tail 16 (by kernel_rfl) (by kernel_rfl) ?_
    simp only [List.take_succ_cons, List.take_zero, List.drop_succ_cons, List.drop_zero]
    iterate 16 (go_big_quiet_step (fail))
    refine wpQuiet_nil ?_
    intro _ hw'
    obtain ⟨nq, hw''⟩ := hw'
    subst hw''
    go_wp2_with fail
    refine (need_no 12 a _).mono ?_
    rintro e w3 ⟨rfl, rfl⟩
    go_wp2
    refine ⟨rfl, ?_⟩
    rw [HP0.out, HW.out, if_neg (by simp at hz; omega)]
    exact ⟨hk1.nil.drewN _, rfl⟩
  · cases h1n : ((n : Int) == 1)
    · cases h48 : (((Lx.nx l 0).toNat : Int) != 48)
      all_goals
        go_wp2_with fail
        refine wp_draw_tail 16 (by kernel_rfl) (by kernel_rfl) ?_
        simp only [List.take_succ_cons, List.take_zero, List.drop_succ_cons, List.drop_zero]
        iterate 16 (go_big_quiet_step ((go_at_call 61; exact Calls.quiet_of (next_l 0 (h1.drew _) (by omega) (by omega)))))
        refine wpQuiet_nil ?_
        intro _ hw'
        obtain ⟨nq, hw''⟩ := hw'
        subst hw''
        go_wp2_with fail
      · refine (need_no 12 a _).mono ?_
        rintro e w3 ⟨rfl, rfl⟩
        go_wp2
        refine ⟨rfl, ?_⟩
        rw [HP0.out, HW.out, if_neg (fun h' => h'.2.elim (fun h' => by simp [h'] at h1n) (fun h' => h' (byte_is (n := 48) (by simp at h48; omega))))]
        exact ⟨hk1.nil.drewN _, rfl⟩
      · refine (need_yes 12 a _).mono ?_
        rintro e w3 ⟨rfl, rfl⟩
        go_wp2_with fail
        refine (forward_l _ (h1.drew _) (by omega) (by omega)).mono ?_
        rintro e w6 ⟨rfl, h6, hk6⟩
        go_wp2
        rw [HP0.out, HW.out, if_pos ⟨by simp at hz; omega, .inr (by intro e; rw [e] at h48; simp at h48)⟩]
        exact ⟨(hk1.nil.drewN _).trans hk6, by simp, by simpa using h6⟩
    · go_wp2_with fail
      refine wp_draw_tail 16 (by kernel_rfl) (by kernel_rfl) ?_
      simp only [List.take_succ_cons, List.take_zero, List.drop_succ_cons, List.drop_zero]
      iterate 16 (go_big_quiet_step (fail))
      refine wpQuiet_nil ?_
      intro _ hw'
      obtain ⟨nq, hw''⟩ := hw'
      subst hw''
      go_wp2_with fail
      refine (need_yes 12 a _).mono ?_
      rintro e w3 ⟨rfl, rfl⟩
      go_wp2_with fail
      refine (forward_l _ (h1.drew _) (by omega) (by omega)).mono ?_
      rintro e w6 ⟨rfl, h6, hk6⟩
      go_wp2
      rw [HP0.out, HW.out, if_pos ⟨by simp at hz; omega, .inl (by simp at h1n; omega)⟩]
      exact ⟨(hk1.nil.drewN _).trans hk6, by simp, by simpa using h6⟩

theorem BSl_drop1 {w : World} {b o cp : Nat} {l : Lx.Bs} (hb : b < w.heap.size) (hc : ∀ j, j < l.length → w.cell? ⟨b, o + j, none⟩ = some (.int .u8 (l.getD j 0).toNat)) (hcp : l.length ≤ cp) (hpos : 1 ≤ l.length) :
    (cp ≠ 1 → BSl w (.slice (some ⟨b, o + 1, none⟩) (l.length - 1) (cp - 1)) (l.drop 1)) ∧ (cp = 1 → BSl w (.slice (some ⟨b, o, none⟩) (l.length - 1) 0) (l.drop 1)) := by
  refine ⟨fun _ => ⟨_, _, by rw [List.length_drop], by rw [List.length_drop]; omega, fun _ => ⟨b, o + 1, rfl, hb, fun j hj => ?_⟩⟩, fun e => ⟨_, _, by rw [List.length_drop], by rw [List.length_drop]; omega, fun hn => ?_⟩⟩
  · rw [List.length_drop] at hj
    rw [show o + 1 + j = o + (1 + j) by omega, hc (1 + j) (by omega)]
    simp [List.getD, Nat.add_comm 1 j]
  · exact absurd (List.eq_nil_of_length_eq_zero (by rw [List.length_drop]; omega)) hn

set_option maxRecDepth 100000 in
set_option maxHeartbeats 1000000 in
theorem prim_c {w : World} {r : Nat} {t : ByteArray} {a : Nat} {l : Lx.Bs} {line col name : Int} (h : RdL w r t a l line col name) (hne : l ≠ []) :
    Calls Tryd.prog 68 #[.pointer (some ⟨r, 0, none⟩)] w (RdPost r t a l line col (fun _ _ => name) w (Lx.primT l)) := by
  have hlen := h.length
  have hsz := h.size
  have hlt := h.lt
  have hpos : 1 ≤ l.length := List.length_pos_iff.2 hne
  have hrun := Lx.run_le Lx.wordy (l.drop 1)
  rw [List.length_drop] at hrun
  obtain ⟨n, hn⟩ : ∃ n, n = Lx.run Lx.wordy (l.drop 1) := ⟨_, rfl⟩
  have hwT : Lx.primT l = if 1 ≤ (n : Int) ∧ (n : Int) ≤ 24 ∧ Lx.large (Lx.nx l 1) = true then .good 4 (l.take (1 + (n : Int) + Lx.colon l (1 + n)).toNat) (1 + (n : Int) + Lx.colon l (1 + n)).toNat else .bad 12 := by
    rw [hn]; rfl
  rw [← hn] at hrun
  obtain ⟨P0, hP0⟩ : ∃ P0, P0 = RdPost r t a l line col (fun _ _ => name) w (Lx.primT l) := ⟨_, rfl⟩
  rw [← hP0]
  have HP0 := Lib.hid hP0; clear hP0
  have HN := Lib.hid hn; clear hn
  have HW := Lib.hid hwT; clear hwT
  go_enter Tryd.func68, Tryd.ntmps68
  go_wp2_with fail
  refine (rest_l h).mono ?_
  rintro e w1 ⟨⟨v, rfl, hv⟩, hk1⟩
  have h1 := h.keep hk1 (by simp)
  have fa := h1.rdr.facts.1
  obtain ⟨ad, cp, rfl, hcp, hcell⟩ := hv
  obtain ⟨b, o, rfl, hb, hcj⟩ := hcell hne
  have HCJ := Lib.hid hcj; clear hcj hcell
  obtain ⟨hB1, hB2⟩ := BSl_drop1 hb HCJ.out hcp hpos
  have H1 := Lib.hid hB1; clear hB1
  have H2 := Lib.hid hB2; clear hB2
  go_wp2_with fail
  all_goals
    refine (runB_c 84 Lx.wordy _ (l.drop 1) w1 (by first | exact H1.out ‹_› | exact H2.out ‹_› | exact H2.out rfl) (by rw [List.length_drop]; omega) enters_isWord isWord_c).mono ?_
    rintro e w1' ⟨rfl, rfl⟩
    rw [← HN.out]
    cases hz1 : decide (1 ≤ (n : Int))
    · go_wp2_with fail
      have hg : True := trivial
      refine wp_draw_tail 16 (by kernel_rfl) (by kernel_rfl) ?_
      simp only [List.take_succ_cons, List.take_zero, List.drop_succ_cons, List.drop_zero]
      iterate 16 (go_big_quiet_step (first | (go_at_call 61; exact Calls.quiet_of (next_l 1 (h1.drew _) (by omega) (by omega))) | (go_at_call 48; fail)))
      refine wpQuiet_nil ?_
      intro _ hw'
      obtain ⟨nq, hw''⟩ := hw'
      subst hw''
      go_wp2_with fail
      refine (need_no 12 a _).mono ?_
      rintro e w3 ⟨rfl, rfl⟩
      go_wp2
      refine ⟨rfl, ?_⟩
      rw [HP0.out, HW.out, if_neg (by simp at hz1; omega)]
      exact ⟨hk1.nil.drewN _, rfl⟩
    · cases hz : decide ((n : Int) ≤ 24)
      · go_wp2_with fail
        refine wp_draw_tail 16 (by kernel_rfl) (by kernel_rfl) ?_
        simp only [List.take_succ_cons, List.take_zero, List.drop_succ_cons, List.drop_zero]
        iterate 16 (go_big_quiet_step (first | (go_at_call 61; exact Calls.quiet_of (next_l 1 (h1.drew _) (by omega) (by omega))) | (go_at_call 48; fail)))
        refine wpQuiet_nil ?_
        intro _ hw'
        obtain ⟨nq, hw''⟩ := hw'
        subst hw''
        go_wp2_with fail
        refine (need_no 12 a _).mono ?_
        rintro e w3 ⟨rfl, rfl⟩
        go_wp2
        refine ⟨rfl, ?_⟩
        rw [HP0.out, HW.out, if_neg (by simp at hz; omega)]
        exact ⟨hk1.nil.drewN _, rfl⟩
      · cases hlg : Lx.large (Lx.nx l 1)
        all_goals
          have hg := large_of hlg
          have HG := Lib.hid hlg; clear hlg
          go_wp2_with fail
          refine wp_draw_tail 16 (by kernel_rfl) (by kernel_rfl) ?_
          simp only [List.take_succ_cons, List.take_zero, List.drop_succ_cons, List.drop_zero]
          iterate 16 (go_big_quiet_step (first | (go_at_call 61; exact Calls.quiet_of (next_l 1 (h1.drew _) (by omega) (by omega))) | (go_at_call 48; exact quiet_same (hg _))))
          refine wpQuiet_nil ?_
          intro _ hw'
          obtain ⟨nq, hw''⟩ := hw'
          subst hw''
          go_wp2_with fail
        · refine (need_no 12 a _).mono ?_
          rintro e w3 ⟨rfl, rfl⟩
          go_wp2
          refine ⟨rfl, ?_⟩
          rw [HP0.out, HW.out, if_neg (by rw [HG.out]; simp)]
          exact ⟨hk1.nil.drewN _, rfl⟩
        · refine (need_yes 12 a _).mono ?_
          rintro e w3 ⟨rfl, rfl⟩
          have hc01 := Lx.colon_or l (1 + (n : Int))
          have hfit : Lx.colon l (1 + (n : Int)) = 1 → n + 1 < l.length := fun e => Lx.colon_lt (n := n + 1) (by rw [← e]; congr 1; omega)
          obtain ⟨c, hc⟩ : ∃ c, c = Lx.colon l (1 + (n : Int)) := ⟨_, rfl⟩
          have HC := Lib.hid hc
          rw [← hc] at hc01 hfit
          clear hc
          have hc0 : 0 ≤ c := by omega
          have hc1 : c ≤ 1 := by omega
          have hfit2 : 1 + (n : Int) + c ≤ l.length := by rcases hc01 with h | h <;> omega
          clear hc01 hfit
          go_wp2_with fail
          refine (colon_l _ (h1.drew _) (by omega) (by omega)).mono ?_
          rintro e w4 ⟨rfl, m4, rfl⟩
          rw [← HC.out]
          go_wp2_with fail
          refine (forward_l _ (h1.drew _) (by omega) (by omega)).mono ?_
          rintro e w6 ⟨rfl, h6, hk6⟩
          go_wp2
          rw [HP0.out, HW.out, if_pos ⟨by simp at hz1; omega, by simp at hz; omega, HG.out⟩, ← HC.out]
          exact ⟨(hk1.nil.drewN _).trans hk6, by simp, h6⟩

end Go.Proofs.YtogmealngeejmaaDoor
