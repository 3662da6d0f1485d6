import Derived.Test.YtogmealngeejmaaGreatDoorJoined4
import Derived.Test.YtogmealngeejmaaGreatDoorJoined5
/- The lexer: signs. -/
namespace Go.Proofs.YtogmealngeejmaaGreatDoor
open Go Go.RowKit

theorem letter_of {b : UInt8} {x : Bool} (h : Lx.letter b = x) (w : World) : Calls Tryz.prog 30 #[.int .u8 b.toNat] w fun e w' => e = .returned (.bool x) ∧ w = w' := by rw [← h]; exact isLetter_c b w
theorem isop_of {b : UInt8} {x : Bool} (h : Lx.isop b = x) (w : World) : Calls Tryz.prog 31 #[.int .u8 b.toNat] w fun e w' => e = .returned (.bool x) ∧ w = w' := by rw [← h]; exact isOp_c b w

set_option maxRecDepth 100000 in
set_option maxHeartbeats 1000000 in
theorem sign_kind {w : World} {r : Nat} {t : ByteArray} {a : Nat} {l : Lx.Bs} {line col name : Int} (h : RdL w r t a l line col name) (hne : l ≠ []) (k : Int)
    (h46 : Bool) (e46 : (((Lx.nx l 0).toNat : Int) == 46) = h46) (h0 : Bool) (e0 : decide (0 < (a : Int)) = h0) (hn : Bool) (en : (name == (a : Int)) = hn) (hl : Bool) (el : Lx.letter (Lx.nx l 1) = hl)
    (ho : Bool) (eo : Lx.isop (Lx.nx l 1) = ho) (hk : k = if (h46 && h0 && hn && (hl || ho)) = true then 9 else 8) :
    Calls Tryz.prog 103 #[.pointer (some ⟨r, 0, none⟩)] w (RdPost r t a l line col (fun _ _ => name) w (.good k (l.take 1) 1)) := by
  have hlen := h.length
  have hsz := h.size
  have hlt := h.lt
  have hpos : 1 ≤ l.length := List.length_pos_iff.2 hne
  obtain ⟨P0, hP0⟩ : ∃ P0, P0 = RdPost r t a l line col (fun _ _ => name) w (.good k (l.take 1) 1) := ⟨_, rfl⟩
  rw [← hP0]
  have HP0 := Lib.hid hP0; clear hP0
  obtain ⟨f0, f1, f2, f3, f4, fz, hlt6⟩ := h.rdr.facts
  have e0' : decide (0 < a) = h0 := by rw [← e0]; exact decide_eq_decide.2 (by omega)
  have hlet := letter_of el
  have hop := isop_of eo
  clear el eo
  go_enter Tryz.func103, Tryz.ntmps103
  cases h46
  case' true => cases h0
  case' true.true => cases hn
  case' true.true.true => cases hl
  case' true.true.true.false => cases ho
  all_goals
    simp at hk
    subst hk
    go_wp2_with fail
    refine (next_l 1 h (by omega) (by omega)).mono ?_
    rintro e w2 ⟨rfl, m2, rfl⟩
    have h2 := h.drew m2
    have hk2 : Kp [r] w (w.drewN m2) := (Kp.refl _ _).drewN m2
    obtain ⟨w2, hw2⟩ : ∃ w2, w2 = w.drewN m2 := ⟨_, rfl⟩
    rw [← hw2] at h2 hk2 ⊢
    clear hw2 f0 f1 f2 f3 f4 fz hlt6
    obtain ⟨f0, f1, f2, f3, f4, fz, hlt6⟩ := h2.rdr.facts
    go_wp2_with fail
    go_quiet (first | (go_at_call 87; exact Calls.quiet_of (next_l 0 (h2.drew _) (by omega) (by omega))) | (go_at_call 30; exact quiet_same (hlet _)) | (go_at_call 31; exact quiet_same (hop _)))
    go_wp2_with fail
    refine (forward_l _ (h2.drew _) (by omega) (by omega)).mono ?_
    rintro e w6 ⟨rfl, h6, hk6⟩
    go_wp2
    rw [HP0.out]
    exact ⟨(hk2.drewN _).trans hk6, by simp, h6⟩

theorem sign_c {w : World} {r : Nat} {t : ByteArray} {a : Nat} {l : Lx.Bs} {line col name : Int} (h : RdL w r t a l line col name) (hne : l ≠ []) :
    Calls Tryz.prog 103 #[.pointer (some ⟨r, 0, none⟩)] w (RdPost r t a l line col (fun _ _ => name) w (Lx.signT (Lx.joined a name) l)) := by
  refine sign_kind h hne _ _ rfl _ rfl _ rfl _ rfl _ rfl ?_
  have e46 : Lx.nx l 0 = 46 ↔ ((((Lx.nx l 0).toNat : Int) == 46) = true) := by
    rw [beq_iff_eq]
    exact ⟨fun e => by rw [e]; rfl, fun e => byte_is (n := 46) (by omega)⟩
  simp only [e46, Lx.joined, Bool.and_eq_true, Bool.or_eq_true, and_assoc]

end Go.Proofs.YtogmealngeejmaaGreatDoor
