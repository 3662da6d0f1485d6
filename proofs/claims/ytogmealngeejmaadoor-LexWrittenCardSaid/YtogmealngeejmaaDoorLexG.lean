/- The lexer: strings; blanks and comments. -/
import Derived.Test.YtogmealngeejmaaDoorLexF
import Derived.Deep.LoopGhost
namespace Go.Proofs.YtogmealngeejmaaDoor
open Go Go.RowKit

theorem enters_strb : Proofs.Enters Tryd.prog 86 := Proofs.enters_of Tryd.func86 (by kernel_rfl) rfl
theorem enters_isBlank : Proofs.Enters Tryd.prog 78 := Proofs.enters_of Tryd.func78 (by kernel_rfl) rfl

theorem bytes_append (a b : Lx.Bs) : (⟨a.toArray⟩ : ByteArray) ++ ⟨b.toArray⟩ = ⟨(a ++ b).toArray⟩ := by
  ext1; simp [ByteArray.data_append]

/-- What str comes to from a place on at which tx has been read. -/
def StrAt (l : Lx.Bs) (m : Nat) (tx : Lx.Bs) : Prop := Lx.strC (l.drop 1) = (Lx.strC (l.drop (1 + m))).map fun p => (tx ++ p.1, m + p.2)

set_option maxRecDepth 100000 in
set_option maxHeartbeats 1000000 in
theorem str_c {w : World} {r : Nat} {t : ByteArray} {a : Nat} {l : Lx.Bs} {line col name : Int} (h : RdL w r t a l line col name) (hne : l ≠ []) :
    Calls Tryd.prog 72 #[.pointer (some ⟨r, 0, none⟩)] w (RdPost r t a l line col (fun _ _ => name) w (Lx.strT l)) := by
  have hlen := h.length
  have hsz := h.size
  have hlt := h.lt
  have hpos : 1 ≤ l.length := List.length_pos_iff.2 hne
  obtain ⟨P0, hP0⟩ : ∃ P0, P0 = RdPost r t a l line col (fun _ _ => name) w (Lx.strT l) := ⟨_, rfl⟩
  rw [← hP0]
  have HP0 := Lib.hid hP0; clear hP0
  have fa := h.rdr.facts.1
  go_enter Tryd.func72, Tryd.ntmps72
  go_wp2_with fail
  refine (forward_m 1 h.begin (by omega) (by omega)).mono ?_
  rintro e w1 ⟨rfl, h1, hk1⟩
  go_wp2_with fail
  go_loopg [5] l.length (fun g x wr => ∃ (m : Nat) (tx : Lx.Bs), g = l.length - m ∧ x = .string ⟨tx.toArray⟩ ∧ 1 + m ≤ l.length ∧ tx.length ≤ m ∧ StrAt l m tx ∧ Kp [r] w wr ∧ RdC wr r t a l line col name (1 + m))
  case atStart => exact ⟨0, [], rfl, rfl, by omega, by simp, by unfold StrAt; cases Lx.strC (l.drop 1) <;> simp, hk1, by simpa using h1⟩
  case round =>
    obtain ⟨m, tx, rfl, rfl, hm, htx, hst, hk2, h2⟩ := hrel
    obtain ⟨l2, hl2⟩ : ∃ l2, l2 = l.drop (1 + m) := ⟨_, rfl⟩
    have hlen2 : l2.length + (1 + m) = l.length := by rw [hl2, List.length_drop]; omega
    have hrun := Lx.run_le Lx.strb l2
    obtain ⟨n, hn⟩ : ∃ n, n = Lx.run Lx.strb l2 := ⟨_, rfl⟩
    rw [← hn] at hrun
    have HN := Lib.hid hn; clear hn
    have HL2 := Lib.hid hl2; clear hl2
    have HST := Lib.hid hst; clear hst
    have HLEN2 := Lib.hid hlen2; clear hlen2
    have hin : (1 + m) + n ≤ l.length := by have := HLEN2.out; omega
    go_wp2_with fail
    refine (rest_l h2.rd).mono ?_
    rintro e w3 ⟨⟨v, rfl, hv⟩, hk3⟩
    have h3 := h2.keep hk3 (by simp)
    rw [← HL2.out] at hv
    go_wp2_with fail
    refine (runB_c 86 Lx.strb v l2 w3 hv (by have := HLEN2.out; omega) enters_strb strb_c).mono ?_
    rintro e w1' ⟨rfl, rfl⟩
    rw [← HN.out]
    go_wp2_with fail
    refine (forward_m n h3 (by omega) (by omega)).mono ?_
    rintro e w4 ⟨rfl, h4, hk4⟩
    rw [Int.toNat_natCast] at h4 ⊢
    rw [← HL2.out]
    go_wp2_with fail
    refine (next_l 0 h4.rd (by omega) (by omega)).mono ?_
    rintro e w5 ⟨rfl, m5, rfl⟩
    obtain ⟨l3, hl3⟩ : ∃ l3, l3 = l.drop (1 + m + n) := ⟨_, rfl⟩
    have hs4 : l3.length + (1 + m + n) = l.length := by rw [hl3, List.length_drop]; omega
    have hl3' : l3 = l2.drop n := by rw [hl3, HL2.out, List.drop_drop]
    rw [← hl3]
    have hstop : ∀ b l', l3 = b :: l' → Lx.strb b = false := by
      intro b l' e
      have hlt3 : Lx.run Lx.strb l2 < l2.length := by
        rw [← HN.out]; rw [e] at hs4; simp at hs4; have := HLEN2.out; omega
      have h0 := Lx.run_no hlt3
      rw [← HN.out] at h0
      have : l2.getD n 0 = b := by
        have : (l2.drop n)[0]? = some b := by rw [← hl3', e]; rfl
        rw [List.getElem?_drop, Nat.add_zero] at this
        rw [List.getD_eq_getElem?_getD, this]; rfl
      rwa [this] at h0
    have HSTOP := Lib.hid hstop; clear hstop
    have hrunC : Lx.strC l2 = (Lx.strC l3).map fun p => (l2.take n ++ p.1, n + p.2) := by
      rw [hl3', HN.out]; exact Lx.strC_run l2
    have HRC := Lib.hid hrunC; clear hrunC
    have HL3 := Lib.hid hl3; clear hl3 hl3'
    have HS4 := Lib.hid hs4; clear hs4
    have hk45 : Kp [r] w (w4.drewN m5) := (((hk2.trans hk3.nil).trans hk4).drewN m5)
    have h5 := h4.drew m5
    obtain ⟨w5, hw5⟩ : ∃ w5, w5 = w4.drewN m5 := ⟨_, rfl⟩
    rw [← hw5] at hk45 h5 ⊢
    clear hw5
    cases hq : (((Lx.nx l3 0).toNat : Int) == 39)
    · have hq' : Lx.nx l3 0 ≠ 39 := by intro e; rw [e] at hq; simp at hq
      have HQ := Lib.hid hq'; clear hq'
      go_wp2_with fail
      refine (need_no 11 a _).mono ?_
      rintro e w3 ⟨rfl, rfl⟩
      go_wp2
      refine ⟨rfl, ?_⟩
      have hst := HST.out
      unfold StrAt at hst
      rw [← HL2.out, HRC.out, Lx.strC_none HQ.out HSTOP.out] at hst
      rw [HP0.out, Lx.strT, hst]
      exact ⟨hk45, rfl⟩
    · have hq' : Lx.nx l3 0 = 39 := byte_is (n := 39) (by simp at hq; omega)
      have hlt3 := Lx.nx_lt (l := l3) (by rw [hq']; decide)
      have hin3 : 1 + m + n + 1 ≤ l.length := by have := HS4.out; omega
      have HQ := Lib.hid hq'; clear hq'
      go_wp2_with fail
      refine (need_yes 11 a _).mono ?_
      rintro e w3 ⟨rfl, rfl⟩
      go_wp2_with fail
      refine (forward_m 1 h5 (by omega) (by omega)).mono ?_
      rintro e w6 ⟨rfl, h6, hk6⟩
      go_wp2_with fail
      refine (next_l 0 h6.rd (by omega) (by omega)).mono ?_
      rintro e w7 ⟨rfl, m7, rfl⟩
      have hk7 : Kp [r] w (w6.drewN m7) := (hk45.trans hk6).drewN m7
      have h7 := h6.drew m7
      obtain ⟨l4, hl4⟩ : ∃ l4, l4 = l.drop (1 + m + n + Int.toNat 1) := ⟨_, rfl⟩
      have hl4' : l4 = l3.drop 1 := by rw [hl4, HL3.out, List.drop_drop]; rfl
      have hs5 : l4.length + (1 + m + n + 1) = l.length := by rw [hl4, List.length_drop]; simp; omega
      rw [← hl4]
      have HL4 := Lib.hid hl4'; clear hl4 hl4'
      have HS5 := Lib.hid hs5; clear hs5
      cases hq4 : (((Lx.nx l4 0).toNat : Int) != 39)
      · have h39 : Lx.nx (l3.drop 1) 0 = 39 := by rw [← HL4.out]; exact byte_is (n := 39) (by simp at hq4; omega)
        have hlt4 : 1 ≤ l4.length := Lx.nx_lt (by rw [HL4.out, h39]; decide)
        have hin4 : 1 + m + n + 2 ≤ l.length := by have := HS5.out; omega
        have H39 := Lib.hid h39; clear h39
        go_wp2_with fail
        refine (forward_m 1 h7 (by omega) (by simp; omega)).mono ?_
        rintro e w8 ⟨rfl, h8, hk8⟩
        go_wp2
        go_roundg (l.length - (m + (n + 2)))
        case measure => omega
        case rel =>
          have e4 : (l.drop (1 + m + n + 1)).take 1 = [39] := by
            have h0 := H39.out
            rw [HL3.out, List.drop_drop] at h0
            cases hd : l.drop (1 + m + n + 1) with
            | nil => rw [hd] at h0; simp [Lx.nx] at h0
            | cons b l' => rw [hd] at h0; simp [Lx.nx] at h0; simp [h0]
          refine ⟨m + (n + 2), tx ++ l2.take n ++ [39], rfl, ?_, by omega, ?_, ?_, (hk7.trans hk8), ?_⟩
          · rw [e4, bytes_append, bytes_append]
          · simp; omega
          · have hst := HST.out
            unfold StrAt at hst ⊢
            rw [← HL2.out, HRC.out, Lx.strC_two HQ.out H39.out, Lx.map_map', Lx.map_map'] at hst
            rw [hst, HL3.out, List.drop_drop, show 1 + m + n + 2 = 1 + (m + (n + 2)) by omega]
            congr 1
            funext p
            simp only [List.append_assoc, List.cons_append, List.nil_append, Prod.mk.injEq, true_and]
            omega
          · have h9 := h8
            rw [show 1 + m + n + Int.toNat 1 + Int.toNat 1 = 1 + (m + (n + 2)) by simp; omega] at h9
            exact h9
      · have h39 : Lx.nx (l3.drop 1) 0 ≠ 39 := by
          rw [← HL4.out]; intro e; rw [e] at hq4; simp at hq4
        go_wp2
        have hst := HST.out
        unfold StrAt at hst
        rw [← HL2.out, HRC.out, Lx.strC_end HQ.out h39] at hst
        simp only [Option.map_some, List.append_nil] at hst
        rw [HP0.out, Lx.strT, hst, bytes_append]
        refine ⟨hk7, by simp, ?_⟩
        have h9 := h7.rd
        rw [show 1 + m + n + Int.toNat 1 = m + (n + 1) + 1 by simp; omega] at h9
        exact h9

end Go.Proofs.YtogmealngeejmaaDoor
