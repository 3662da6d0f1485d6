/- The lexer: blanks and comments. -/
import Derived.Test.YtogmealngeejmaaDoorLexG
namespace Go.Proofs.YtogmealngeejmaaDoor
open Go Go.RowKit

def PsPost (r : Nat) (t : ByteArray) (a : Nat) (l : Lx.Bs) (line col name : Int) (w : World) (e : Ending) (w' : World) : Prop :=
  Kp [r] w w' ∧ match Lx.pas 0 none l with
    | .at n => e = .returned (.tuple #[]) ∧ RdC w' r t a l line col name n
    | .open n => e = .panicked [{ v := .iface 85 (.agg #[.int .i64 11, .int .i64 ((a + n : Nat) : Int)]), recovered := false }]

set_option maxRecDepth 100000 in
set_option maxHeartbeats 1000000 in
theorem pass_c {w : World} {r : Nat} {t : ByteArray} {a : Nat} {l : Lx.Bs} {line col name : Int} (h : RdL w r t a l line col name) :
    Calls Tryd.prog 58 #[.pointer (some ⟨r, 0, none⟩)] w (PsPost r t a l line col name w) := by
  have hlen := h.length
  have hsz := h.size
  have hlt := h.lt
  obtain ⟨P0, hP0⟩ : ∃ P0, P0 = PsPost r t a l line col name w := ⟨_, rfl⟩
  rw [← hP0]
  have HP0 := Lib.hid hP0; clear hP0
  go_enter Tryd.func58, Tryd.ntmps58
  go_step3
  go_wp2_with fail
  go_step3
  go_wp2_with fail
  go_loopg [] l.length (fun g wr => ∃ m : Nat, g = l.length - m ∧ m ≤ l.length ∧ Hid (Lx.pas 0 none l = Lx.pas m none (l.drop m)) ∧ Kp [r] w wr ∧ RdC wr r t a l line col name m)
  case atStart => exact ⟨0, rfl, Nat.zero_le _, by simp [Hid], Kp.refl _ _, h.begin⟩
  case round =>
    obtain ⟨m, rfl, hm, hst, hk2, h2⟩ := hrel
    obtain ⟨l2, hl2⟩ : ∃ l2, l2 = l.drop m := ⟨_, rfl⟩
    have hlen2 : l2.length + m = l.length := by rw [hl2, List.length_drop]; omega
    have hrun := Lx.run_le Lx.blank l2
    obtain ⟨n, hn⟩ : ∃ n, n = Lx.run Lx.blank l2 := ⟨_, rfl⟩
    rw [← hn] at hrun
    have HN := Lib.hid hn; clear hn
    have HL2 := Lib.hid hl2; clear hl2
    have HLEN2 := Lib.hid hlen2; clear hlen2
    have hin : m + n ≤ l.length := by have := HLEN2.out; omega
    go_wp2_with fail
    refine (rest_l h2.rd).mono ?_
    rintro e w3 ⟨⟨v, rfl, hv⟩, hk3⟩
    have h3 := h2.keep hk3 (by simp)
    rw [← HL2.out] at hv
    go_wp2_with fail
    refine (runB_c 78 Lx.blank v l2 w3 hv (by have := HLEN2.out; omega) enters_isBlank isBlank_c).mono ?_
    rintro e w1' ⟨rfl, rfl⟩
    rw [← HN.out]
    go_wp2_with fail
    refine (forward_m n h3 (by omega) (by omega)).mono ?_
    rintro e w4 ⟨rfl, h4, hk4⟩
    rw [Int.toNat_natCast] at h4
    go_wp2_with fail
    refine (next_l 0 h4.rd (by omega) (by omega)).mono ?_
    rintro e w5 ⟨rfl, m5, rfl⟩
    obtain ⟨l3, hl3⟩ : ∃ l3, l3 = l.drop (m + n) := ⟨_, rfl⟩
    have hs4 : l3.length + (m + n) = l.length := by rw [hl3, List.length_drop]; omega
    have hl3' : l3 = l2.drop n := by rw [hl3, HL2.out, List.drop_drop]
    rw [← hl3]
    have hstop : ∀ b l', l3 = b :: l' → Lx.blank b = false := by
      intro b l' e
      have hlt3 : Lx.run Lx.blank l2 < l2.length := by
        rw [← HN.out]; rw [e] at hs4; simp at hs4; have := HLEN2.out; omega
      have h0 := Lx.run_no hlt3
      rw [← HN.out] at h0
      have : l2.getD n 0 = b := by
        have : (l2.drop n)[0]? = some b := by rw [← hl3', e]; rfl
        rw [List.getElem?_drop, Nat.add_zero] at this
        rw [List.getD_eq_getElem?_getD, this]; rfl
      rwa [this] at h0
    have HSTOP := Lib.hid hstop; clear hstop
    have hst' : Lx.pas 0 none l = Lx.pas (m + n) none l3 := by
      rw [hst.out, ← HL2.out, Lx.pas_run, ← HN.out, ← hl3']
    have HST := Lib.hid hst'; clear hst' hst
    have HL3 := Lib.hid hl3; clear hl3 hl3'
    have HS4 := Lib.hid hs4; clear hs4
    have hk45 : Kp [r] w (w4.drewN m5) := (((hk2.trans hk3.nil).trans hk4).drewN m5)
    have h5 := h4.drew m5
    obtain ⟨w5, hw5⟩ : ∃ w5, w5 = w4.drewN m5 := ⟨_, rfl⟩
    rw [← hw5] at hk45 h5 ⊢
    clear hw5
    cases hq : (((Lx.nx l3 0).toNat : Int) != 34)
    · have hq' : Lx.nx l3 0 = 34 := byte_is (n := 34) (by simp at hq; omega)
      have hlt3 := Lx.nx_lt (l := l3) (by rw [hq']; decide)
      have hin3 : m + n + 1 ≤ l.length := by have := HS4.out; omega
      have HQ := Lib.hid hq'; clear hq'
      obtain ⟨f0, f1, f2, f3, f4, fz, hlt6⟩ := h5.rd.rdr.facts
      have hx : (t.data.toList.drop (a + (m + n) + 1)).take (t.size - (a + (m + n) + 1)) = l3.drop 1 := by
        rw [List.take_of_length_le (by rw [List.length_drop, size_list]; omega), HL3.out, List.drop_drop, ← h.left, List.drop_drop]
        rfl
      have HX := Lib.hid hx; clear hx
      have hpc := Lx.pas_comment (l := l3) (k := m + n) HQ.out
      have hil := Lx.indexByte_lt (l3.drop 1) 34
      rw [List.length_drop] at hil
      obtain ⟨i, hi⟩ : ∃ i, i = Lib.indexByte (l3.drop 1) 34 := ⟨_, rfl⟩
      rw [← hi] at hpc hil
      have hib : ∀ w, Calls Tryd.prog 49 #[.string (t.extract (a + (m + n) + 1) t.size), .int .u8 34] w fun e w' => e = .returned (.int .i64 i) ∧ w' = w := fun w => by
        have := Tryd.strings_IndexByte (t.extract (a + (m + n) + 1) t.size) 34 w
        rw [ext_list, HX.out] at this
        rw [hi]; exact this
      clear hi
      have HPC := Lib.hid hpc; clear hpc
      go_wp2_with fail
      go_quiet ((go_at_call 49; exact Calls.quiet_of_same (hib _)))
      go_wp2_with fail
      cases hi0 : decide (0 ≤ i)
      · refine (need_no 11 _ _).mono ?_
        rintro e w3 ⟨rfl, rfl⟩
        go_wp2
        refine ⟨rfl, ?_⟩
        rw [HP0.out]
        unfold PsPost
        rw [HST.out, HPC.out, if_neg (by simp at hi0; omega)]
        exact ⟨hk45.drewN _, by simp⟩
      · have hi0' : 0 ≤ i := by simpa using hi0
        obtain ⟨j, rfl⟩ := Int.eq_ofNat_of_zero_le hi0'
        have hin4 : m + n + (j + 2) ≤ l.length := by have := HS4.out; omega
        refine (need_yes 11 _ _).mono ?_
        rintro e w3 ⟨rfl, rfl⟩
        go_wp2_with fail
        refine (forward_m _ (h5.drew _) (by omega) (by omega)).mono ?_
        rintro e w8 ⟨rfl, h8, hk8⟩
        go_wp2
        go_roundg (l.length - (m + n + (j + 2)))
        case measure => omega
        case rel =>
          have e8 : ((j : Int) + 2).toNat = j + 2 := by omega
          rw [e8] at h8
          refine ⟨m + n + (j + 2), rfl, hin4, ?_, (hk45.drewN _).trans hk8, h8⟩
          show _ = _
          rw [HST.out, HPC.out, if_pos (by omega), HL3.out, List.drop_drop, Int.toNat_natCast]
    · have hq' : Lx.nx l3 0 ≠ 34 := by intro e; rw [e] at hq; simp at hq
      go_wp2
      rw [Exit.noGoto_normal]
      refine bodyPost_end (results_none rfl _ _ _) rfl ?_
      rw [HP0.out]
      unfold PsPost
      rw [HST.out, Lx.pas_stop hq' HSTOP.out]
      exact ⟨hk45, rfl, h5⟩

end Go.Proofs.YtogmealngeejmaaDoor
