/- The lexer's exported functions: Lex, Ends, At, Token, Kind. -/
import Derived.Test.YtogmealngeejmaaDoorLexO
namespace Go.Proofs.YtogmealngeejmaaDoor
open Go Go.RowKit

/-- What 'divided' hands back: the pieces, the error, its index. -/
def Lx.dv (t : Lx.Bs) : List Lx.Pc × Int × Nat :=
  match (Lx.divide t).2 with
  | none => ((Lx.divide t).1, 0, 0)
  | some (er, a) => ([], er, a)

theorem Lx.divs_len (f : Nat) : ∀ (a : Nat) (l : Lx.Bs) (line col name : Int) (many : Nat), many ≤ 6000 → (Lx.divs f a l line col name many).1.length + many ≤ 6000 := by
  induction f with
  | zero => intro a l line col name many h; simpa [Lx.divs] using h
  | succ f ih =>
    intro a l line col name many h
    rw [divs_succ]
    split
    · simpa using h
    · split
      · simpa using h
      · split
        · simpa using h
        · split
          · rename_i hm
            simp only [List.length_cons]
            rw [Nat.add_right_comm, Nat.add_assoc]
            exact ih _ _ _ _ _ (many + 1) (by omega)
          · simpa using h

theorem Lx.dv_len (t : Lx.Bs) : (Lx.dv t).1.length ≤ 6000 := by
  unfold Lx.dv
  split
  · unfold Lx.divide
    split
    · have := Lx.divs_len (t.length + 1) 0 t 1 1 0 0 (by omega); simpa using this
    · simp
  · simp

theorem divided_d (t : ByteArray) (w : World) (hsz : t.size ≤ 1000000) : Calls Tryd.prog 21 #[.string t] w fun e w' => Kp [] w w' ∧
    ∃ v, e = .returned (.tuple #[v, .int .i64 (Lx.dv t.data.toList).2.1, .int .i64 (Lx.dv t.data.toList).2.2]) ∧ w'.ownsRow w.heap.size 55 6 v (Lx.dv t.data.toList).1.length ((Lx.dv t.data.toList).1.flatMap cellsPc) := by
  refine (divided_c t w hsz).mono ?_
  rintro e w' ⟨hk, h⟩
  refine ⟨hk, ?_⟩
  unfold Lx.dv
  cases hr : (Lx.divide t.data.toList).2 with
  | none => rw [hr] at h; exact h
  | some p =>
    obtain ⟨er, a⟩ := p
    rw [hr] at h
    exact ⟨_, h, World.ownsRow_nil _ _ _ _⟩

set_option maxRecDepth 100000 in
set_option maxHeartbeats 1000000 in
theorem lex_c (t : ByteArray) (w : World) (hsz : t.size ≤ 1000000) : Calls Tryd.prog 8 #[.string t] w fun e w' => Kp [] w w' ∧
    ∃ v, e = .returned (.tuple #[v, .int .i64 (Lx.dv t.data.toList).2.1, .int .i64 (Lx.dv t.data.toList).2.2]) ∧ w'.ownsRow w.heap.size 33 4 v (Lx.dv t.data.toList).1.length (((Lx.dv t.data.toList).1.map tkOf).flatMap cellsTk) := by
  obtain ⟨P0, hP0⟩ : ∃ P0 : Ending → World → Prop, P0 = fun e w' => Kp [] w w' ∧ ∃ v, e = .returned (.tuple #[v, .int .i64 (Lx.dv t.data.toList).2.1, .int .i64 (Lx.dv t.data.toList).2.2]) ∧
    w'.ownsRow w.heap.size 33 4 v (Lx.dv t.data.toList).1.length (((Lx.dv t.data.toList).1.map tkOf).flatMap cellsTk) := ⟨_, rfl⟩
  rw [← hP0]
  have HP0 := Lib.hid hP0; clear hP0
  go_enter Tryd.func8, Tryd.ntmps8
  go_wp2_with fail
  refine (divided_d t w hsz).mono ?_
  rintro e w1 ⟨hk1, v, rfl, hrow⟩
  have hlen := Lx.dv_len t.data.toList
  obtain ⟨r, hr⟩ : ∃ r, r = Lx.dv t.data.toList := ⟨_, rfl⟩
  rw [← hr] at hrow hlen
  rw [← hr] at HP0
  rw [← hr]
  clear hr
  go_wp2_with fail
  refine (mappedT_c r.1 v w1 (Rd.of_own cellsPc_length hrow) hlen).mono ?_
  rintro e w2 ⟨v', rfl, hk2, hrow2⟩
  go_wp2_with fail
  refine bodyPost_ret (results_tmp3 rfl _ _ _) rfl ?_
  rw [HP0.out]
  exact ⟨hk1.trans hk2, v', rfl, ownsRow_base hrow2 hk1.size⟩

set_option maxRecDepth 100000 in
set_option maxHeartbeats 1000000 in
theorem ends_c (t : ByteArray) (w : World) (hsz : t.size ≤ 1000000) : Calls Tryd.prog 16 #[.string t] w fun e w' => Kp [] w w' ∧
    ∃ v, e = .returned (.tuple #[v, .int .i64 (Lx.dv t.data.toList).2.1, .int .i64 (Lx.dv t.data.toList).2.2]) ∧ w'.ownsRow w.heap.size 3 1 v (Lx.dv t.data.toList).1.length (((Lx.dv t.data.toList).1.map (·.to)).flatMap cellsI) := by
  obtain ⟨P0, hP0⟩ : ∃ P0 : Ending → World → Prop, P0 = fun e w' => Kp [] w w' ∧ ∃ v, e = .returned (.tuple #[v, .int .i64 (Lx.dv t.data.toList).2.1, .int .i64 (Lx.dv t.data.toList).2.2]) ∧
    w'.ownsRow w.heap.size 3 1 v (Lx.dv t.data.toList).1.length (((Lx.dv t.data.toList).1.map (·.to)).flatMap cellsI) := ⟨_, rfl⟩
  rw [← hP0]
  have HP0 := Lib.hid hP0; clear hP0
  go_enter Tryd.func16, Tryd.ntmps16
  go_wp2_with fail
  refine (divided_d t w hsz).mono ?_
  rintro e w1 ⟨hk1, v, rfl, hrow⟩
  have hlen := Lx.dv_len t.data.toList
  obtain ⟨r, hr⟩ : ∃ r, r = Lx.dv t.data.toList := ⟨_, rfl⟩
  rw [← hr] at hrow hlen
  rw [← hr] at HP0
  rw [← hr]
  clear hr
  go_wp2_with fail
  refine (mappedI_c r.1 v w1 (Rd.of_own cellsPc_length hrow) hlen).mono ?_
  rintro e w2 ⟨v', rfl, hk2, hrow2⟩
  go_wp2_with fail
  refine bodyPost_ret (results_tmp3 rfl _ _ _) rfl ?_
  rw [HP0.out]
  exact ⟨hk1.trans hk2, v', rfl, ownsRow_base hrow2 hk1.size⟩

/-- The place of a byte. -/
def Lx.at (t : Lx.Bs) (i : Int) : Int × Int × Int := if 0 ≤ i ∧ i ≤ t.length then ((Lx.adv (t.take i.toNat) (1, 1)).1, (Lx.adv (t.take i.toNat) (1, 1)).2, 0) else (0, 0, 1)

set_option maxRecDepth 100000 in
set_option maxHeartbeats 1000000 in
theorem at_c (t : ByteArray) (i : Int) (w : World) (hsz : t.size ≤ 1000000) : Calls Tryd.prog 9 #[.string t, .int .i64 i] w fun e w' => Kp [] w w' ∧
    e = .returned (.tuple #[.int .i64 (Lx.at t.data.toList i).1, .int .i64 (Lx.at t.data.toList i).2.1, .int .i64 (Lx.at t.data.toList i).2.2]) := by
  obtain ⟨P0, hP0⟩ : ∃ P0 : Ending → World → Prop, P0 = fun e w' => Kp [] w w' ∧ e = .returned (.tuple #[.int .i64 (Lx.at t.data.toList i).1, .int .i64 (Lx.at t.data.toList i).2.1, .int .i64 (Lx.at t.data.toList i).2.2]) := ⟨_, rfl⟩
  rw [← hP0]
  have HP0 := Lib.hid hP0; clear hP0
  go_enter Tryd.func9, Tryd.ntmps9
  cases h0 : decide (i < 0)
  · have h0' : 0 ≤ i := by simpa using h0
    cases h1 : decide ((t.size : Int) < i)
    · have h1' : i ≤ t.size := by simpa using h1
      have hat : Lx.at t.data.toList i = ((Lx.adv (t.data.toList.take i.toNat) (1, 1)).1, (Lx.adv (t.data.toList.take i.toNat) (1, 1)).2, 0) := by
        unfold Lx.at; rw [if_pos ⟨h0', by rw [size_list]; exact h1'⟩]
      have HAT := Lib.hid hat; clear hat
      go_wp2_with fail
      have hR : RdL (w.alloc (.cells #[.int .i64 0, .int .i64 1, .int .i64 1, .string t, .int .i64 0] 64)) w.heap.size t 0 t.data.toList 1 1 0 :=
        ⟨heap_alloc_new w _, by simp, Nat.zero_le _, hsz, by omega, by simp, by omega, by simp⟩
      refine (forward_l i hR h0' (by rw [size_list]; exact h1')).mono ?_
      rintro e w1 ⟨rfl, hR1, hk1⟩
      have hk : Kp [] w w1 := ((Kp.refl [] w).alloc _).trans' hk1 (fun x hx => by simp at hx; right; omega)
      obtain ⟨f0, f1, f2, f3, f4, fz, hlt⟩ := hR1.rdr.facts
      have HK := Lib.hid hk; clear hk hk1 hR hR1
      obtain ⟨b, hb⟩ : ∃ b, b = w.heap.size := ⟨_, rfl⟩
      rw [← hb] at f0 f1 f2 f3 f4 fz hlt ⊢
      clear hb
      go_wp2_with fail
      go_quiet (fail)
      go_wp2
      refine bodyPost_ret (results_tmp3 rfl _ _ _) rfl ?_
      rw [HP0.out]
      exact ⟨HK.out.drewN _, by rw [HAT.out]; rfl⟩
    · go_wp2_with fail
      refine bodyPost_ret (results_tmp3 rfl _ _ _) rfl ?_
      rw [HP0.out]
      refine ⟨Kp.refl _ _, ?_⟩
      unfold Lx.at
      rw [if_neg (by rw [size_list]; have : (t.size : Int) < i := of_decide_eq_true h1; omega)]
      rfl
  · go_wp2_with fail
    refine bodyPost_ret (results_tmp3 rfl _ _ _) rfl ?_
    rw [HP0.out]
    refine ⟨Kp.refl _ _, ?_⟩
    unfold Lx.at
    rw [if_neg (by have : i < 0 := of_decide_eq_true h0; omega)]
    rfl

end Go.Proofs.YtogmealngeejmaaDoor
