import Derived.Test.YtogmealngeejmaaGreatDoorJoined6
import Derived.Deep.LoopGhost
/- The lexer: strings; blanks and comments. -/
namespace Go.Proofs.YtogmealngeejmaaGreatDoor
open Go Go.RowKit

theorem enters_strb : Proofs.Enters Tryz.prog 114 := Proofs.enters_of Tryz.func114 (by kernel_rfl) rfl
theorem enters_isBlank : Proofs.Enters Tryz.prog 106 := Proofs.enters_of Tryz.func106 (by kernel_rfl) rfl

theorem bytes_append (a b : Lx.Bs) : (⟨a.toArray⟩ : ByteArray) ++ ⟨b.toArray⟩ = ⟨(a ++ b).toArray⟩ := by
  ext1; simp [ByteArray.data_append]

/-- What str comes to from a place on at which tx has been read. -/
def StrAt (l : Lx.Bs) (m : Nat) (tx : Lx.Bs) : Prop := Lx.strC (l.drop 1) = (Lx.strC (l.drop (1 + m))).map fun p => (tx ++ p.1, m + p.2)

set_option maxRecDepth 100000 in
set_option maxHeartbeats 1000000 in
theorem str_c {w : World} {r : Nat} {t : ByteArray} {a : Nat} {l : Lx.Bs} {line col name : Int} (h : RdL w r t a l line col name) (hne : l ≠ []) :
    Calls Tryz.prog 100 #[.pointer (some ⟨r, 0, none⟩)] w (RdPost r t a l line col (fun _ _ => name) w (Lx.strT l)) := by
  have hlen := h.length
  have hsz := h.size
  have hlt := h.lt
  have hpos : 1 ≤ l.length := List.length_pos_iff.2 hne
  obtain ⟨P0, hP0⟩ : ∃ P0, P0 = RdPost r t a l line col (fun _ _ => name) w (Lx.strT l) := ⟨_, rfl⟩
  rw [← hP0]
  have HP0 := Lib.hid hP0; clear hP0
  have fa := h.rdr.facts.1
  go_enter Tryz.func100, Tryz.ntmps100
  go_wp2_with fail
  refine (forward_m 1 h.begin (by omega) (by omega)).mono ?_
  rintro e w1 ⟨rfl, h1, hk1⟩
  go_wp2_with fail
  go_loopg [5] l.length (fun g x wr => ∃ (m : Nat) (tx : Lx.Bs), g = l.length - m ∧ x = .string ⟨tx.toArray⟩ ∧ 1 + m ≤ l.length ∧ tx.length ≤ m ∧ StrAt l m tx ∧ Kp [r] w wr ∧ RdC wr r t a l line col name (1 + m))
  case atStart => exact ⟨0, [], rfl, rfl, by omega, by simp, by unfold StrAt; cases Lx.strC (l.drop 1) <;> simp, hk1, by simpa using h1⟩
  case round =>
    obtain ⟨m, tx, rfl, rfl, hm, htx, hst, hk2, h2⟩ := hrel
    obtain ⟨l2, hl2⟩ : ∃ l2, l2 = l.drop (1 + m) := ⟨_, rfl⟩
    have hlen2 : l2.length + (1 + m) = l.length := by rw [hl2, List.length_drop]; omega
    have hrun := Lx.run_le Lx.strb l2
    obtain ⟨n, hn⟩ : ∃ n, n = Lx.run Lx.strb l2 := ⟨_, rfl⟩
    rw [← hn] at hrun
    have HN := Lib.hid hn; clear hn
    have HL2 := Lib.hid hl2; clear hl2
    have HST := Lib.hid hst; clear hst
    have HLEN2 := Lib.hid hlen2; clear hlen2
    have hin : (1 + m) + n ≤ l.length := by have := HLEN2.out; omega
    go_wp2_with fail
    refine (rest_l h2.rd).mono ?_
    rintro e w3 ⟨⟨v, rfl, hv⟩, hk3⟩
    have h3 := h2.keep hk3 (by simp)
    rw [← HL2.out] at hv
    go_wp2_with fail
    refine (runB_c 114 Lx.strb v l2 w3 hv (by have := HLEN2.out; omega) enters_strb strb_c).mono ?_
    rintro e w1' ⟨rfl, rfl⟩
    rw [← HN.out]
    go_wp2_with fail
    refine (forward_m n h3 (by omega) (by omega)).mono ?_
    rintro e w4 ⟨rfl, h4, hk4⟩
    rw [Int.toNat_natCast] at h4 ⊢
    rw [← HL2.out]
    go_wp2_with fail
    refine (next_l 0 h4.rd (by omega) (by omega)).mono ?_
    rintro e w5 ⟨rfl, m5, rfl⟩
    obtain ⟨l3, hl3⟩ : ∃ l3, l3 = l.drop (1 + m + n) := ⟨_, rfl⟩
    have hs4 : l3.length + (1 + m + n) = l.length := by rw [hl3, List.length_drop]; omega
    have hl3' : l3 = l2.drop n := by rw [hl3, HL2.out, List.drop_drop]
    rw [← hl3]
    have hstop : ∀ b l', l3 = b :: l' → Lx.strb b = false := by
      intro b l' e
      have hlt3 : Lx.run Lx.strb l2 < l2.length := by
        rw [← HN.out]; rw [e] at hs4; simp at hs4; have := HLEN2.out; omega
      have h0 := Lx.run_no hlt3
      rw [← HN.out] at h0
      have : l2.getD n 0 = b := by
        have : (l2.drop n)[0]? = some b := by rw [← hl3', e]; rfl
        rw [List.getElem?_drop, Nat.add_zero] at this
        rw [List.getD_eq_getElem?_getD, this]; rfl
      rwa [this] at h0
    have HSTOP := Lib.hid hstop; clear hstop
    have hrunC : Lx.strC l2 = (Lx.strC l3).map fun p => (l2.take n ++ p.1, n + p.2) := by
      rw [hl3', HN.out]; exact Lx.strC_run l2
    have HRC := Lib.hid hrunC; clear hrunC
    have HL3 := Lib.hid hl3; clear hl3 hl3'
    have HS4 := Lib.hid hs4; clear hs4
    have hk45 : Kp [r] w (w4.drewN m5) := (((hk2.trans hk3.nil).trans hk4).drewN m5)
    have h5 := h4.drew m5
    obtain ⟨w5, hw5⟩ : ∃ w5, w5 = w4.drewN m5 := ⟨_, rfl⟩
    rw [← hw5] at hk45 h5 ⊢
    clear hw5
    cases hq : (((Lx.nx l3 0).toNat : Int) == 39)
    · have hq' : Lx.nx l3 0 ≠ 39 := by intro e; rw [e] at hq; simp at hq
      have HQ := Lib.hid hq'; clear hq'
      go_wp2_with fail
      refine (need_no 11 a _).mono ?_
      rintro e w3 ⟨rfl, rfl⟩
      go_wp2
      refine ⟨rfl, ?_⟩
      have hst := HST.out
      unfold StrAt at hst
      rw [← HL2.out, HRC.out, Lx.strC_none HQ.out HSTOP.out] at hst
      rw [HP0.out, Lx.strT, hst]
      exact ⟨hk45, rfl⟩
    · have hq' : Lx.nx l3 0 = 39 := byte_is (n := 39) (by simp at hq; omega)
      have hlt3 := Lx.nx_lt (l := l3) (by rw [hq']; decide)
      have hin3 : 1 + m + n + 1 ≤ l.length := by have := HS4.out; omega
      have HQ := Lib.hid hq'; clear hq'
      go_wp2_with fail
      refine (need_yes 11 a _).mono ?_
      rintro e w3 ⟨rfl, rfl⟩
      go_wp2_with fail
      refine (forward_m 1 h5 (by omega) (by omega)).mono ?_
      rintro e w6 ⟨rfl, h6, hk6⟩
      go_wp2_with fail
      refine (next_l 0 h6.rd (by omega) (by omega)).mono ?_
      rintro e w7 ⟨rfl, m7, rfl⟩
      have hk7 : Kp [r] w (w6.drewN m7) := (hk45.trans hk6).drewN m7
      have h7 := h6.drew m7
      obtain ⟨l4, hl4⟩ : ∃ l4, l4 = l.drop (1 + m + n + Int.toNat 1) := ⟨_, rfl⟩
      have hl4' : l4 = l3.drop 1 := by rw [hl4, HL3.out, List.drop_drop]; rfl
      have hs5 : l4.length + (1 + m + n + 1) = l.length := by rw [hl4, List.length_drop]; simp; omega
      rw [← hl4]
      have HL4 := Lib.hid hl4'; clear hl4 hl4'
      have HS5 := Lib.hid hs5; clear hs5
      cases hq4 : (((Lx.nx l4 0).toNat : Int) != 39)
      · have h39 : Lx.nx (l3.drop 1) 0 = 39 := by rw [← HL4.out]; exact byte_is (n := 39) (by simp at hq4; omega)
        have hlt4 : 1 ≤ l4.length := Lx.nx_lt (by rw [HL4.out, h39]; decide)
        have hin4 : 1 + m + n + 2 ≤ l.length := by have := HS5.out; omega
        have H39 := Lib.hid h39; clear h39
        go_wp2_with fail
        refine (forward_m 1 h7 (by omega) (by simp; omega)).mono ?_
        rintro e w8 ⟨rfl, h8, hk8⟩
        go_wp2
        go_roundg (l.length - (m + (n + 2)))
        case measure => omega
        case rel =>
          have e4 : (l.drop (1 + m + n + 1)).take 1 = [39] := by
            have h0 := H39.out
            rw [HL3.out, List.drop_drop] at h0
            cases hd : l.drop (1 + m + n + 1) with
            | nil => rw [hd] at h0; simp [Lx.nx] at h0
            | cons b l' => rw [hd] at h0; simp [Lx.nx] at h0; simp [h0]
          refine ⟨m + (n + 2), tx ++ l2.take n ++ [39], rfl, ?_, by omega, ?_, ?_, (hk7.trans hk8), ?_⟩
          · rw [e4, bytes_append, bytes_append]
          · simp; omega
          · have hst := HST.out
            unfold StrAt at hst ⊢
            rw [← HL2.out, HRC.out, Lx.strC_two HQ.out H39.out, Lx.map_map', Lx.map_map'] at hst
            rw [hst, HL3.out, List.drop_drop, show 1 + m + n + 2 = 1 + (m + (n + 2)) by omega]
            congr 1
            funext p
            simp only [List.append_assoc, List.cons_append, List.nil_append, Prod.mk.injEq, true_and]
            omega
          · have h9 := h8
            rw [show 1 + m + n + Int.toNat 1 + Int.toNat 1 = 1 + (m + (n + 2)) by simp; omega] at h9
            exact h9
      · have h39 : Lx.nx (l3.drop 1) 0 ≠ 39 := by
          rw [← HL4.out]; intro e; rw [e] at hq4; simp at hq4
        go_wp2
        have hst := HST.out
        unfold StrAt at hst
        rw [← HL2.out, HRC.out, Lx.strC_end HQ.out h39] at hst
        simp only [Option.map_some, List.append_nil] at hst
        rw [HP0.out, Lx.strT, hst, bytes_append]
        refine ⟨hk7, by simp, ?_⟩
        have h9 := h7.rd
        rw [show 1 + m + n + Int.toNat 1 = m + (n + 1) + 1 by simp; omega] at h9
        exact h9

end Go.Proofs.YtogmealngeejmaaGreatDoor

/- The lexer: blanks and comments. -/
namespace Go.Proofs.YtogmealngeejmaaGreatDoor
open Go Go.RowKit

def PsPost (r : Nat) (t : ByteArray) (a : Nat) (l : Lx.Bs) (line col name : Int) (w : World) (e : Ending) (w' : World) : Prop :=
  Kp [r] w w' ∧ match Lx.pas 0 none l with
    | .at n => e = .returned (.tuple #[]) ∧ RdC w' r t a l line col name n
    | .open n => e = .panicked [{ v := .iface 100 (.agg #[.int .i64 11, .int .i64 ((a + n : Nat) : Int)]), recovered := false }]

set_option maxRecDepth 100000 in
set_option maxHeartbeats 1000000 in
theorem pass_c {w : World} {r : Nat} {t : ByteArray} {a : Nat} {l : Lx.Bs} {line col name : Int} (h : RdL w r t a l line col name) :
    Calls Tryz.prog 84 #[.pointer (some ⟨r, 0, none⟩)] w (PsPost r t a l line col name w) := by
  have hlen := h.length
  have hsz := h.size
  have hlt := h.lt
  obtain ⟨P0, hP0⟩ : ∃ P0, P0 = PsPost r t a l line col name w := ⟨_, rfl⟩
  rw [← hP0]
  have HP0 := Lib.hid hP0; clear hP0
  go_enter Tryz.func84, Tryz.ntmps84
  go_step3
  go_wp2_with fail
  go_step3
  go_wp2_with fail
  go_loopg [] l.length (fun g wr => ∃ m : Nat, g = l.length - m ∧ m ≤ l.length ∧ Hid (Lx.pas 0 none l = Lx.pas m none (l.drop m)) ∧ Kp [r] w wr ∧ RdC wr r t a l line col name m)
  case atStart => exact ⟨0, rfl, Nat.zero_le _, by simp [Hid], Kp.refl _ _, h.begin⟩
  case round =>
    obtain ⟨m, rfl, hm, hst, hk2, h2⟩ := hrel
    obtain ⟨l2, hl2⟩ : ∃ l2, l2 = l.drop m := ⟨_, rfl⟩
    have hlen2 : l2.length + m = l.length := by rw [hl2, List.length_drop]; omega
    have hrun := Lx.run_le Lx.blank l2
    obtain ⟨n, hn⟩ : ∃ n, n = Lx.run Lx.blank l2 := ⟨_, rfl⟩
    rw [← hn] at hrun
    have HN := Lib.hid hn; clear hn
    have HL2 := Lib.hid hl2; clear hl2
    have HLEN2 := Lib.hid hlen2; clear hlen2
    have hin : m + n ≤ l.length := by have := HLEN2.out; omega
    go_wp2_with fail
    refine (rest_l h2.rd).mono ?_
    rintro e w3 ⟨⟨v, rfl, hv⟩, hk3⟩
    have h3 := h2.keep hk3 (by simp)
    rw [← HL2.out] at hv
    go_wp2_with fail
    refine (runB_c 106 Lx.blank v l2 w3 hv (by have := HLEN2.out; omega) enters_isBlank isBlank_c).mono ?_
    rintro e w1' ⟨rfl, rfl⟩
    rw [← HN.out]
    go_wp2_with fail
    refine (forward_m n h3 (by omega) (by omega)).mono ?_
    rintro e w4 ⟨rfl, h4, hk4⟩
    rw [Int.toNat_natCast] at h4
    go_wp2_with fail
    refine (next_l 0 h4.rd (by omega) (by omega)).mono ?_
    rintro e w5 ⟨rfl, m5, rfl⟩
    obtain ⟨l3, hl3⟩ : ∃ l3, l3 = l.drop (m + n) := ⟨_, rfl⟩
    have hs4 : l3.length + (m + n) = l.length := by rw [hl3, List.length_drop]; omega
    have hl3' : l3 = l2.drop n := by rw [hl3, HL2.out, List.drop_drop]
    rw [← hl3]
    have hstop : ∀ b l', l3 = b :: l' → Lx.blank b = false := by
      intro b l' e
      have hlt3 : Lx.run Lx.blank l2 < l2.length := by
        rw [← HN.out]; rw [e] at hs4; simp at hs4; have := HLEN2.out; omega
      have h0 := Lx.run_no hlt3
      rw [← HN.out] at h0
      have : l2.getD n 0 = b := by
        have : (l2.drop n)[0]? = some b := by rw [← hl3', e]; rfl
        rw [List.getElem?_drop, Nat.add_zero] at this
        rw [List.getD_eq_getElem?_getD, this]; rfl
      rwa [this] at h0
    have HSTOP := Lib.hid hstop; clear hstop
    have hst' : Lx.pas 0 none l = Lx.pas (m + n) none l3 := by
      rw [hst.out, ← HL2.out, Lx.pas_run, ← HN.out, ← hl3']
    have HST := Lib.hid hst'; clear hst' hst
    have HL3 := Lib.hid hl3; clear hl3 hl3'
    have HS4 := Lib.hid hs4; clear hs4
    have hk45 : Kp [r] w (w4.drewN m5) := (((hk2.trans hk3.nil).trans hk4).drewN m5)
    have h5 := h4.drew m5
    obtain ⟨w5, hw5⟩ : ∃ w5, w5 = w4.drewN m5 := ⟨_, rfl⟩
    rw [← hw5] at hk45 h5 ⊢
    clear hw5
    cases hq : (((Lx.nx l3 0).toNat : Int) != 34)
    · have hq' : Lx.nx l3 0 = 34 := byte_is (n := 34) (by simp at hq; omega)
      have hlt3 := Lx.nx_lt (l := l3) (by rw [hq']; decide)
      have hin3 : m + n + 1 ≤ l.length := by have := HS4.out; omega
      have HQ := Lib.hid hq'; clear hq'
      obtain ⟨f0, f1, f2, f3, f4, fz, hlt6⟩ := h5.rd.rdr.facts
      have hx : (t.data.toList.drop (a + (m + n) + 1)).take (t.size - (a + (m + n) + 1)) = l3.drop 1 := by
        rw [List.take_of_length_le (by rw [List.length_drop, size_list]; omega), HL3.out, List.drop_drop, ← h.left, List.drop_drop]
        rfl
      have HX := Lib.hid hx; clear hx
      have hpc := Lx.pas_comment (l := l3) (k := m + n) HQ.out
      have hil := Lx.indexByte_lt (l3.drop 1) 34
      rw [List.length_drop] at hil
      obtain ⟨i, hi⟩ : ∃ i, i = Lib.indexByte (l3.drop 1) 34 := ⟨_, rfl⟩
      rw [← hi] at hpc hil
      have hib : ∀ w, Calls Tryz.prog 61 #[.string (t.extract (a + (m + n) + 1) t.size), .int .u8 34] w fun e w' => e = .returned (.int .i64 i) ∧ w' = w := fun w => by
        have := Tryz.strings_IndexByte (t.extract (a + (m + n) + 1) t.size) 34 w
        rw [ext_list, HX.out] at this
        rw [hi]; exact this
      clear hi
      have HPC := Lib.hid hpc; clear hpc
      go_wp2_with fail
      go_quiet ((go_at_call 61; exact Calls.quiet_of_same (hib _)))
      go_wp2_with fail
      cases hi0 : decide (0 ≤ i)
      · refine (need_no 11 _ _).mono ?_
        rintro e w3 ⟨rfl, rfl⟩
        go_wp2
        refine ⟨rfl, ?_⟩
        rw [HP0.out]
        unfold PsPost
        rw [HST.out, HPC.out, if_neg (by simp at hi0; omega)]
        exact ⟨hk45.drewN _, by simp⟩
      · have hi0' : 0 ≤ i := by simpa using hi0
        obtain ⟨j, rfl⟩ := Int.eq_ofNat_of_zero_le hi0'
        have hin4 : m + n + (j + 2) ≤ l.length := by have := HS4.out; omega
        refine (need_yes 11 _ _).mono ?_
        rintro e w3 ⟨rfl, rfl⟩
        go_wp2_with fail
        refine (forward_m _ (h5.drew _) (by omega) (by omega)).mono ?_
        rintro e w8 ⟨rfl, h8, hk8⟩
        go_wp2
        go_roundg (l.length - (m + n + (j + 2)))
        case measure => omega
        case rel =>
          have e8 : ((j : Int) + 2).toNat = j + 2 := by omega
          rw [e8] at h8
          refine ⟨m + n + (j + 2), rfl, hin4, ?_, (hk45.drewN _).trans hk8, h8⟩
          show _ = _
          rw [HST.out, HPC.out, if_pos (by omega), HL3.out, List.drop_drop, Int.toNat_natCast]
    · have hq' : Lx.nx l3 0 ≠ 34 := by intro e; rw [e] at hq; simp at hq
      go_wp2
      rw [Exit.noGoto_normal]
      refine bodyPost_end (results_none rfl _ _ _) rfl ?_
      rw [HP0.out]
      unfold PsPost
      rw [HST.out, Lx.pas_stop hq' HSTOP.out]
      exact ⟨hk45, rfl, h5⟩

end Go.Proofs.YtogmealngeejmaaGreatDoor

/- The lexer: the table of classes, and which of them a byte begins. -/
namespace Go.Proofs.YtogmealngeejmaaGreatDoor
open Go Go.RowKit

set_option maxRecDepth 100000 in
set_option maxHeartbeats 400000 in
theorem classes1_c (b : UInt8) (w : World) : Calls Tryz.prog 95 #[.int .u8 b.toNat] w fun e w' => e = .returned (.bool ((b.toNat : Int) == 95)) ∧ w = w' := by
  have hb := byte_lt b
  go_enter Tryz.func95, Tryz.ntmps95
  go_wp2
  go_ret
  exact ⟨rfl, rfl⟩

set_option maxRecDepth 100000 in
set_option maxHeartbeats 400000 in
theorem classes2_c (b : UInt8) (w : World) : Calls Tryz.prog 99 #[.int .u8 b.toNat] w fun e w' => e = .returned (.bool ((b.toNat : Int) == 39)) ∧ w = w' := by
  have hb := byte_lt b
  go_enter Tryz.func99, Tryz.ntmps99
  go_wp2
  go_ret
  exact ⟨rfl, rfl⟩

/-- By the place in the table: what begins a class; how it is read; which bytes. -/
def clsF : Nat → FuncId
  | 0 => 30 | 1 => 95 | 2 => 97 | 3 => 99 | 4 => 31 | _ => 102
def clsG : Nat → FuncId
  | 0 => 94 | 1 => 96 | 2 => 98 | 3 => 100 | 4 => 101 | _ => 103
def clsP : Nat → UInt8 → Bool
  | 0 => Lx.letter | 1 => fun b => (b.toNat : Int) == 95 | 2 => Lx.digit | 3 => fun b => (b.toNat : Int) == 39 | 4 => Lx.isop | _ => Lx.issign

theorem cls_enters (k : Nat) : Proofs.Enters Tryz.prog (clsF k) := by
  match k with
  | 0 => exact Proofs.enters_of Tryz.func30 (by kernel_rfl) rfl
  | 1 => exact Proofs.enters_of Tryz.func95 (by kernel_rfl) rfl
  | 2 => exact Proofs.enters_of Tryz.func97 (by kernel_rfl) rfl
  | 3 => exact Proofs.enters_of Tryz.func99 (by kernel_rfl) rfl
  | 4 => exact Proofs.enters_of Tryz.func31 (by kernel_rfl) rfl
  | (n + 5) => exact Proofs.enters_of Tryz.func102 (by kernel_rfl) rfl
theorem cls_calls (k : Nat) (b : UInt8) (w : World) : Calls Tryz.prog (clsF k) #[.int .u8 b.toNat] w fun e w' => e = .returned (.bool (clsP k b)) ∧ w = w' := by
  match k with
  | 0 => exact isLetter_c b w
  | 1 => exact classes1_c b w
  | 2 => exact isDigit_c b w
  | 3 => exact classes2_c b w
  | 4 => exact isOp_c b w
  | (n + 5) => exact isSign_c b w

def clsCells : Array Value := #[.func (.func (clsF 0)) #[] #[], .func (.func (clsG 0)) #[] #[], .func (.func (clsF 1)) #[] #[], .func (.func (clsG 1)) #[] #[], .func (.func (clsF 2)) #[] #[], .func (.func (clsG 2)) #[] #[],
  .func (.func (clsF 3)) #[] #[], .func (.func (clsG 3)) #[] #[], .func (.func (clsF 4)) #[] #[], .func (.func (clsG 4)) #[] #[], .func (.func (clsF 5)) #[] #[], .func (.func (clsG 5)) #[] #[]]

theorem cls_cell {w : World} {b : Nat} (h : w.heap[b]? = some (.cells clsCells 118 (0, 0))) (k : Nat) (hk : k < 6) :
    w.cell? ⟨b, k * 2, none⟩ = some (.func (.func (clsF k)) #[] #[]) ∧ w.cell? ⟨b, k * 2 + 1, none⟩ = some (.func (.func (clsG k)) #[] #[]) := by
  rw [cell_of_block h, cell_of_block h]
  match k, hk with
  | 0, _ => exact ⟨rfl, rfl⟩
  | 1, _ => exact ⟨rfl, rfl⟩
  | 2, _ => exact ⟨rfl, rfl⟩
  | 3, _ => exact ⟨rfl, rfl⟩
  | 4, _ => exact ⟨rfl, rfl⟩
  | 5, _ => exact ⟨rfl, rfl⟩

set_option maxRecDepth 100000 in
set_option maxHeartbeats 400000 in
theorem classes_c (w : World) : Calls Tryz.prog 83 #[] w fun e w' =>
    e = .returned (.slice (some ⟨w.heap.size, 0, none⟩) 6 6) ∧ w' = w.alloc (.cells clsCells 118) := by
  go_enter Tryz.func83, Tryz.ntmps83
  go_wp2
  go_ret
  exact ⟨rfl, rfl⟩

set_option maxRecDepth 100000 in
set_option maxHeartbeats 400000 in
theorem begins_c {w : World} {r : Nat} {t : ByteArray} {a : Nat} {l : Lx.Bs} {line col name : Int} (h : RdL w r t a l line col name) (k pb : Nat) (hpb : w.cell? ⟨pb, 0, none⟩ = some (.pointer (some ⟨r, 0, none⟩))) (hp : pb < w.heap.size) :
    Calls Tryz.prog 86 #[.agg #[.func (.func (clsF k)) #[] #[], .func (.func (clsG k)) #[] #[]], .pointer (some ⟨pb, 0, none⟩)] w fun e w' =>
      e = .returned (.bool (clsP k (Lx.nx l 0))) ∧ Kp [] w w' := by
  have hc := cls_calls k (Lx.nx l 0)
  have he := cls_enters k
  obtain ⟨f, hf⟩ : ∃ f, f = clsF k := ⟨_, rfl⟩
  obtain ⟨g, hg⟩ : ∃ g, g = clsG k := ⟨_, rfl⟩
  rw [← hf] at hc he ⊢
  rw [← hg]
  clear hf hg
  obtain ⟨x, hx⟩ : ∃ x, x = clsP k (Lx.nx l 0) := ⟨_, rfl⟩
  rw [← hx] at hc ⊢
  clear hx
  have he' : ∀ args w, (callFunc f args).run Tryz.prog w = .ok (.enter f args) w := he
  clear he
  have hlt := h.lt
  have h1 : RdL (w.alloc (.cells #[.func (.func f) #[] #[], .func (.func g) #[] #[]] 118)) r t a l line col name := h.keep ((Kp.refl [] w).alloc _) (by simp)
  have hpb1 : (w.alloc (.cells #[.func (.func f) #[] #[], .func (.func g) #[] #[]] 118)).cell? ⟨pb, 0, none⟩ = some (.pointer (some ⟨r, 0, none⟩)) := by
    rw [World.cell?_alloc_past _ _ _ hp]; exact hpb
  go_enter Tryz.func86, Tryz.ntmps86
  go_wp2
  go_quiet (first | (go_at_call 87; exact Calls.quiet_of (next_l 0 (h1.drew _) (by omega) (by omega))) | (exact quiet_same (hc _)))
  go_wp2
  go_ret
  exact ⟨rfl, ((Kp.refl [] w).alloc _).drewN _⟩

end Go.Proofs.YtogmealngeejmaaGreatDoor

/- The lexer: the index of the class that a byte begins. -/
namespace Go.Proofs.YtogmealngeejmaaGreatDoor
open Go Go.RowKit

/-- The class that a byte begins; -1: none. -/
def clsIdx (b : UInt8) : Int :=
  if clsP 0 b = true then 0 else if clsP 1 b = true then 1 else if clsP 2 b = true then 2 else if clsP 3 b = true then 3 else if clsP 4 b = true then 4 else if clsP 5 b = true then 5 else -1

theorem clsIdx_eq {b : UInt8} {k : Nat} (hk : k < 6) (h1 : ∀ j, j < k → clsP j b = false) (h2 : clsP k b = true) : clsIdx b = k := by
  unfold clsIdx
  match k, hk with
  | 0, _ => rw [if_pos h2]; rfl
  | 1, _ => rw [if_neg (by rw [h1 0 (by omega)]; simp), if_pos h2]; rfl
  | 2, _ => rw [if_neg (by rw [h1 0 (by omega)]; simp), if_neg (by rw [h1 1 (by omega)]; simp), if_pos h2]; rfl
  | 3, _ => rw [if_neg (by rw [h1 0 (by omega)]; simp), if_neg (by rw [h1 1 (by omega)]; simp), if_neg (by rw [h1 2 (by omega)]; simp), if_pos h2]; rfl
  | 4, _ => rw [if_neg (by rw [h1 0 (by omega)]; simp), if_neg (by rw [h1 1 (by omega)]; simp), if_neg (by rw [h1 2 (by omega)]; simp), if_neg (by rw [h1 3 (by omega)]; simp), if_pos h2]; rfl
  | 5, _ => rw [if_neg (by rw [h1 0 (by omega)]; simp), if_neg (by rw [h1 1 (by omega)]; simp), if_neg (by rw [h1 2 (by omega)]; simp), if_neg (by rw [h1 3 (by omega)]; simp), if_neg (by rw [h1 4 (by omega)]; simp), if_pos h2]; rfl
theorem clsIdx_none {b : UInt8} (h : ∀ j, j < 6 → clsP j b = false) : clsIdx b = -1 := by
  unfold clsIdx
  rw [if_neg (by rw [h 0 (by omega)]; simp), if_neg (by rw [h 1 (by omega)]; simp), if_neg (by rw [h 2 (by omega)]; simp), if_neg (by rw [h 3 (by omega)]; simp), if_neg (by rw [h 4 (by omega)]; simp), if_neg (by rw [h 5 (by omega)]; simp)]

set_option maxRecDepth 100000 in
set_option maxHeartbeats 400000 in
theorem indexCls_c {w : World} {r : Nat} {t : ByteArray} {a : Nat} {l : Lx.Bs} {line col name : Int} (h : RdL w r t a l line col name) (pb cb : Nat) (hpb : w.cell? ⟨pb, 0, none⟩ = some (.pointer (some ⟨r, 0, none⟩)))
    (hcb : w.heap[cb]? = some (.cells clsCells 118 (0, 0))) :
    Calls Tryz.prog 85 #[.slice (some ⟨cb, 0, none⟩) 6 6, .func (.func 86) #[] #[.pointer (some ⟨pb, 0, none⟩)]] w fun e w' =>
      e = .returned (.int .i64 (clsIdx (Lx.nx l 0))) ∧ Kp [] w w' := by
  have hp : pb < w.heap.size := World.block_lt_of_cell? w _ hpb
  have hclt := lt_of_block hcb
  have hent : ∀ args w, (callFunc 86 args).run Tryz.prog w = .ok (.enter 86 args) w := Proofs.enters_of Tryz.func86 (by kernel_rfl) rfl
  obtain ⟨R, hR⟩ : ∃ R, R = clsIdx (Lx.nx l 0) := ⟨_, rfl⟩
  rw [← hR]
  have HR := Lib.hid hR; clear hR
  have HPB := Lib.hid hpb; clear hpb
  have HCB := Lib.hid hcb; clear hcb
  go_enter Tryz.func85, Tryz.ntmps85
  go_wp2
  go_loopw [8] (fun i wr => ∃ k : Nat, k ≤ 6 ∧ i = .int .i64 k ∧ Hid (∀ j, j < k → clsP j (Lx.nx l 0) = false) ∧ Kp [] w wr) (fun i _ => 6 - (intOf i).toNat)
  case atStart => exact ⟨0, Nat.zero_le _, rfl, fun j hj => by omega, Kp.refl _ _⟩
  case round =>
    obtain ⟨k, hk, rfl, hall, hkw⟩ := hrel
    by_cases hk6 : k < 6
    · have hc2 := cls_cell (hkw.heap HCB.out (by simp)) k hk6
      obtain ⟨c1, c2⟩ := hc2
      have hpbk : wr.cell? ⟨pb, 0, none⟩ = some (.pointer (some ⟨r, 0, none⟩)) := (hkw.cell (p := ⟨pb, 0, none⟩) hp (by simp)).trans HPB.out
      have HB := Lib.hid (begins_c (h.keep hkw (by simp)) k pb hpbk (by have := hkw.size; omega))
      clear hpbk
      go_wp2_with fail
      refine HB.out.mono ?_
      rintro e w2 ⟨rfl, hk2⟩
      cases hq : clsP k (Lx.nx l 0)
      · have HQ := Lib.hid hq; clear hq
        go_wp2
        go_roundw
        case rel =>
          refine ⟨k + 1, by omega, by go_num, fun j hj => ?_, hkw.trans hk2⟩
          by_cases hjk : j < k
          · exact hall j hjk
          · obtain rfl : j = k := by omega
            exact HQ.out
        case measure => simp [intOf]; omega
      · have HQ := Lib.hid hq; clear hq
        go_wp2
        go_ret
        exact ⟨ret_int (by rw [HR.out, clsIdx_eq hk6 hall HQ.out]), hkw.trans hk2⟩
    · obtain rfl : k = 6 := by omega
      go_wp2
      go_ret
      exact ⟨ret_int (by rw [HR.out, clsIdx_none hall]), hkw⟩

end Go.Proofs.YtogmealngeejmaaGreatDoor

/- The lexer: reading a token of the class that its first byte begins. -/
namespace Go.Proofs.YtogmealngeejmaaGreatDoor
open Go Go.RowKit

theorem RdPost.renamed {r : Nat} {t : ByteArray} {a : Nat} {l : Lx.Bs} {line col name : Int} {w : World} {x : Lx.Tk} {e : Ending} {w' : World} (h : RdPost r t a l line col (fun _ _ => name) w x e w')
    (hk : ∀ k tx n, x = .good k tx n → k ≠ 1) : RdPost r t a l line col (fun k n => if k = 1 then ((a + n : Nat) : Int) else name) w x e w' := by
  refine ⟨h.1, ?_⟩
  cases x with
  | bad er => exact h.2
  | good k tx n =>
    have := h.2
    simp only [if_neg (hk k tx n rfl)]
    exact this

theorem primT_kind {l : Lx.Bs} : ∀ k tx n, Lx.primT l = .good k tx n → k ≠ 1 := by
  intro k tx n h; unfold Lx.primT at h; simp only at h; split at h
  · simp only [Lx.Tk.good.injEq] at h; omega
  · cases h
theorem numT_kind {l : Lx.Bs} : ∀ k tx n, Lx.numT l = .good k tx n → k ≠ 1 := by
  intro k tx n h; unfold Lx.numT at h; simp only at h; split at h
  · simp only [Lx.Tk.good.injEq] at h; omega
  · cases h
theorem opT_kind {l : Lx.Bs} : ∀ k tx n, Lx.opT l = .good k tx n → k ≠ 1 := by
  intro k tx n h; unfold Lx.opT at h; simp only at h; split at h
  · simp only [Lx.Tk.good.injEq] at h; omega
  · cases h
theorem strT_kind {l : Lx.Bs} : ∀ k tx n, Lx.strT l = .good k tx n → k ≠ 1 := by
  intro k tx n h; unfold Lx.strT at h; split at h
  · simp only [Lx.Tk.good.injEq] at h; omega
  · cases h
theorem signT_kind {j : Bool} {l : Lx.Bs} : ∀ k tx n, Lx.signT j l = .good k tx n → k ≠ 1 := by
  intro k tx n h; unfold Lx.signT at h; simp only [Lx.Tk.good.injEq] at h
  have := h.1; split at this <;> omega

/-- Reading a token, by the class. -/
theorem read_c {w : World} {r : Nat} {t : ByteArray} {a : Nat} {l : Lx.Bs} {line col name : Int} (h : RdL w r t a l line col name) (hne : l ≠ []) (k : Nat) (hk : clsIdx (Lx.nx l 0) = k) :
    Calls Tryz.prog (clsG k) #[.pointer (some ⟨r, 0, none⟩)] w (RdPost r t a l line col (fun k n => if k = 1 then ((a + n : Nat) : Int) else name) w (Lx.tok (Lx.joined a name) l)) := by
  unfold clsIdx at hk
  simp only [clsP] at hk
  unfold Lx.tok
  split at hk
  · rename_i hb
    obtain rfl : k = 0 := by omega
    rw [if_pos hb]; exact word_c h
  · rename_i hb0
    rw [if_neg hb0]
    split at hk
    · rename_i hb
      obtain rfl : k = 1 := by omega
      rw [if_pos hb]; exact (prim_c h hne).mono fun e w' hp => hp.renamed primT_kind
    · rename_i hb1
      rw [if_neg hb1]
      split at hk
      · rename_i hb
        obtain rfl : k = 2 := by omega
        rw [if_pos hb]; exact (number_c h).mono fun e w' hp => hp.renamed numT_kind
      · rename_i hb2
        rw [if_neg hb2]
        split at hk
        · rename_i hb
          obtain rfl : k = 3 := by omega
          rw [if_pos hb]; exact (str_c h hne).mono fun e w' hp => hp.renamed strT_kind
        · rename_i hb3
          rw [if_neg hb3]
          split at hk
          · rename_i hb
            obtain rfl : k = 4 := by omega
            rw [if_pos hb]; exact (op_c h).mono fun e w' hp => hp.renamed opT_kind
          · rename_i hb4
            rw [if_neg hb4]
            split at hk
            · rename_i hb
              obtain rfl : k = 5 := by omega
              rw [if_pos hb]; exact (sign_c h hne).mono fun e w' hp => hp.renamed signT_kind
            · omega

theorem tok_none {l : Lx.Bs} {j : Bool} (hk : clsIdx (Lx.nx l 0) < 0) : Lx.tok j l = .bad 10 := by
  unfold clsIdx at hk
  simp only [clsP] at hk
  unfold Lx.tok
  (repeat' split at hk) <;> first | omega | simp_all

theorem clsIdx_lt (b : UInt8) : clsIdx b < 6 := by unfold clsIdx; (repeat' split) <;> omega
theorem clsIdx_ge (b : UInt8) : -1 ≤ clsIdx b := by unfold clsIdx; (repeat' split) <;> omega

theorem clsG_enters (k : Nat) : Proofs.Enters Tryz.prog (clsG k) := by
  match k with
  | 0 => exact Proofs.enters_of Tryz.func94 (by kernel_rfl) rfl
  | 1 => exact Proofs.enters_of Tryz.func96 (by kernel_rfl) rfl
  | 2 => exact Proofs.enters_of Tryz.func98 (by kernel_rfl) rfl
  | 3 => exact Proofs.enters_of Tryz.func100 (by kernel_rfl) rfl
  | 4 => exact Proofs.enters_of Tryz.func101 (by kernel_rfl) rfl
  | (n + 5) => exact Proofs.enters_of Tryz.func103 (by kernel_rfl) rfl

end Go.Proofs.YtogmealngeejmaaGreatDoor
