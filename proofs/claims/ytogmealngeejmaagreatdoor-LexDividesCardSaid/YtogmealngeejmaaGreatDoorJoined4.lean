import Derived.Test.YtogmealngeejmaaGreatDoorJoined3
import Derived.Shelf.Abstract
/- The lexer: the reader with the bytes that are still to be read; its small methods, by these. -/
namespace Go.Proofs.YtogmealngeejmaaGreatDoor
open Go Go.RowKit

/-- The reader at r, with what is left to read: l. -/
structure RdL (w : World) (r : Nat) (t : ByteArray) (a : Nat) (l : Lx.Bs) (line col name : Int) : Prop where
  rdr : Rdr w r t a line col name
  left : t.data.toList.drop a = l
  le : a ≤ t.size
  size : t.size ≤ 1100000
  line0 : 0 ≤ line
  line1 : line ≤ a + 1
  col0 : 0 ≤ col
  col1 : col ≤ a + 1

theorem RdL.length {w : World} {r : Nat} {t : ByteArray} {a : Nat} {l : Lx.Bs} {line col name : Int} (h : RdL w r t a l line col name) : a + l.length = t.size := by
  rw [← h.left, List.length_drop, size_list]; have := h.le; omega
theorem RdL.keep {S : List Nat} {w w' : World} {r : Nat} {t : ByteArray} {a : Nat} {l : Lx.Bs} {line col name : Int} (h : RdL w r t a l line col name) (k : Kp S w w') (hr : r ∉ S) : RdL w' r t a l line col name :=
  ⟨h.rdr.keep k hr, h.left, h.le, h.size, h.line0, h.line1, h.col0, h.col1⟩
theorem RdL.drew {w : World} {r : Nat} {t : ByteArray} {a : Nat} {l : Lx.Bs} {line col name : Int} (h : RdL w r t a l line col name) (n : Nat) : RdL (w.drewN n) r t a l line col name :=
  ⟨h.rdr, h.left, h.le, h.size, h.line0, h.line1, h.col0, h.col1⟩
theorem RdL.name' {w : World} {r : Nat} {t : ByteArray} {a : Nat} {l : Lx.Bs} {line col name : Int} (h : RdL w r t a l line col name) (x : Int) : RdL (w.setCell ⟨r, 4, none⟩ (.int .i64 x)) r t a l line col x :=
  ⟨h.rdr.name' x, h.left, h.le, h.size, h.line0, h.line1, h.col0, h.col1⟩
theorem RdL.lt {w : World} {r : Nat} {t : ByteArray} {a : Nat} {l : Lx.Bs} {line col name : Int} (h : RdL w r t a l line col name) : r < w.heap.size := h.rdr.facts.2.2.2.2.2.2

section
variable {w : World} {r : Nat} {t : ByteArray} {a : Nat} {l : Lx.Bs} {line col name : Int}

theorem next_l (n : Int) (h : RdL w r t a l line col name) (h0 : 0 ≤ n) (h1 : n ≤ 1100000) :
    Calls Tryz.prog 87 #[.pointer (some ⟨r, 0, none⟩), .int .i64 n] w fun e w' => e = .returned (.int .u8 (Lx.nx l n).toNat) ∧ ∃ m, w' = w.drewN m := by
  have := next_c r t a line col name n w h.rdr h0 h1 h.le h.size
  rwa [h.left] at this

theorem colon_l (n : Int) (h : RdL w r t a l line col name) (h0 : 0 ≤ n) (h1 : n ≤ 1100000) :
    Calls Tryz.prog 113 #[.pointer (some ⟨r, 0, none⟩), .int .i64 n] w fun e w' => e = .returned (.int .i64 (Lx.colon l n)) ∧ ∃ m, w' = w.drewN m := by
  have := colon_c r t a line col name n w h.rdr h0 h1 h.le h.size
  rwa [h.left] at this

theorem rest_l (h : RdL w r t a l line col name) :
    Calls Tryz.prog 105 #[.pointer (some ⟨r, 0, none⟩)] w fun e w' => (∃ v, e = .returned v ∧ BSl w' v l) ∧ Kp [] w w' := by
  have := rest_c r t a line col name w h.rdr h.le h.size
  rwa [h.left] at this

/-- A string of the text, as a list. -/
theorem ext_string (t : ByteArray) (a n : Nat) : Value.string (t.extract a (a + n)) = .string ⟨((t.data.toList.drop a).take n).toArray⟩ := by
  congr 1
  have : (t.extract a (a + n)).data.toList = (t.data.toList.drop a).take n := by rw [ext_list]; congr 1; omega
  rw [← this]

theorem forward_l (n : Int) (h : RdL w r t a l line col name) (h0 : 0 ≤ n) (h1 : n ≤ l.length) :
    Calls Tryz.prog 54 #[.pointer (some ⟨r, 0, none⟩), .int .i64 n] w fun e w' =>
      e = .returned (.string ⟨(l.take n.toNat).toArray⟩) ∧
      RdL w' r t (a + n.toNat) (l.drop n.toNat) (Lx.adv (l.take n.toNat) (line, col)).1 (Lx.adv (l.take n.toNat) (line, col)).2 name ∧ Kp [r] w w' := by
  obtain ⟨n, rfl⟩ := Int.eq_ofNat_of_zero_le h0
  have hl := h.length
  have b1 := h.line0; have b2 := h.line1; have b3 := h.col0; have b4 := h.col1; have b5 := h.size
  have h1' : n ≤ l.length := by omega
  refine (forward_c r t a n line col name w h.rdr (by omega) h.size ⟨b1, by omega⟩ ⟨b3, by omega⟩).mono ?_
  rintro e w' ⟨rfl, hr, hk⟩
  rw [h.left] at hr
  rw [ext_string, h.left, Int.toNat_natCast]
  have hb := Lx.adv_bound (l.take n) (line, col)
  have hlt : (l.take n).length = n := by rw [List.length_take]; omega
  simp only [hlt] at hb
  refine ⟨rfl, ⟨hr, ?_, by omega, h.size, by omega, by omega, hb.2.2.1 b3, ?_⟩, hk⟩
  · rw [← List.drop_drop, h.left]
  · have := hb.2.2.2 b3
    by_cases hn : n = 0
    · subst hn; simp [Lx.adv]; omega
    · have hadv := Lx.adv_col (l.take n) (line, col) b3
      rw [hlt] at hadv
      simp only at hadv
      omega
end

/-- The reader that stood at a, with l to read, m bytes further on. -/
structure RdC (w : World) (r : Nat) (t : ByteArray) (a : Nat) (l : Lx.Bs) (line col name : Int) (m : Nat) : Prop where
  fit : m ≤ l.length
  rd : RdL w r t (a + m) (l.drop m) (Lx.adv (l.take m) (line, col)).1 (Lx.adv (l.take m) (line, col)).2 name

section
variable {w : World} {r : Nat} {t : ByteArray} {a : Nat} {l : Lx.Bs} {line col name : Int} {m : Nat}
theorem RdL.begin (h : RdL w r t a l line col name) : RdC w r t a l line col name 0 := ⟨Nat.zero_le _, h⟩
theorem RdC.keep {S : List Nat} {w' : World} (h : RdC w r t a l line col name m) (k : Kp S w w') (hr : r ∉ S) : RdC w' r t a l line col name m := ⟨h.fit, h.rd.keep k hr⟩
theorem RdC.drew (h : RdC w r t a l line col name m) (n : Nat) : RdC (w.drewN n) r t a l line col name m := ⟨h.fit, h.rd.drew n⟩
theorem forward_m (n : Int) (h : RdC w r t a l line col name m) (h0 : 0 ≤ n) (h1 : m + n ≤ l.length) :
    Calls Tryz.prog 54 #[.pointer (some ⟨r, 0, none⟩), .int .i64 n] w fun e w' =>
      e = .returned (.string ⟨((l.drop m).take n.toNat).toArray⟩) ∧ RdC w' r t a l line col name (m + n.toNat) ∧ Kp [r] w w' := by
  refine (forward_l n h.rd h0 (by rw [List.length_drop]; omega)).mono ?_
  rintro e w' ⟨rfl, hr, hk⟩
  refine ⟨rfl, ⟨by omega, ?_⟩, hk⟩
  rw [List.drop_drop, ← Lx.adv_append] at hr
  rw [← Nat.add_assoc]
  have e : l.take m ++ (l.drop m).take n.toNat = l.take (m + n.toNat) := by rw [List.take_add]
  rwa [e] at hr
end

theorem quiet_same {P : Program} {f : FuncId} {args : Array Value} {w : World} {n : Nat} {v : Value}
    (h : Calls P f args (w.drewN n) fun e w' => e = .returned v ∧ w.drewN n = w') : Calls P f args (w.drewN n) fun e w'' => e = .returned v ∧ ∃ m, w'' = w.drewN m :=
  h.mono fun _ _ ⟨he, hm⟩ => ⟨he, n, hm.symm⟩

end Go.Proofs.YtogmealngeejmaaGreatDoor

/- The lexer: words. -/
namespace Go.Proofs.YtogmealngeejmaaGreatDoor
open Go Go.RowKit

/-- What reading a token comes to, in memory; nm: the index behind the last name. -/
def RdPost (r : Nat) (t : ByteArray) (a : Nat) (l : Lx.Bs) (line col : Int) (nm : Int → Nat → Int) (w : World) (x : Lx.Tk) (e : Ending) (w' : World) : Prop :=
  Kp [r] w w' ∧ match x with
    | .good k tx n => e = .returned (.tuple #[.int .i64 k, .string ⟨tx.toArray⟩]) ∧ RdL w' r t (a + n) (l.drop n) (Lx.adv (l.take n) (line, col)).1 (Lx.adv (l.take n) (line, col)).2 (nm k n)
    | .bad er => e = .panicked [{ v := .iface 100 (.agg #[.int .i64 er, .int .i64 a]), recovered := false }]

theorem enters_isWord : Proofs.Enters Tryz.prog 112 := Proofs.enters_of Tryz.func112 (by kernel_rfl) rfl

theorem small_of {b : UInt8} {x : Bool} (h : Lx.small b = x) (w : World) : Calls Tryz.prog 59 #[.int .u8 b.toNat] w fun e w' => e = .returned (.bool x) ∧ w = w' := by rw [← h]; exact isSmall_c b w
theorem large_of {b : UInt8} {x : Bool} (h : Lx.large b = x) (w : World) : Calls Tryz.prog 60 #[.int .u8 b.toNat] w fun e w' => e = .returned (.bool x) ∧ w = w' := by rw [← h]; exact isLarge_c b w

set_option maxRecDepth 100000 in
set_option maxHeartbeats 1000000 in
theorem word_c {w : World} {r : Nat} {t : ByteArray} {a : Nat} {l : Lx.Bs} {line col name : Int} (h : RdL w r t a l line col name) :
    Calls Tryz.prog 94 #[.pointer (some ⟨r, 0, none⟩)] w (RdPost r t a l line col (fun k n => if k = 1 then ((a + n : Nat) : Int) else name) w (Lx.wordT l)) := by
  have hlen := h.length
  have hsz := h.size
  have hlt := h.lt
  have hrun := Lx.run_le Lx.wordy l
  obtain ⟨n, hn⟩ : ∃ n, n = Lx.run Lx.wordy l := ⟨_, rfl⟩
  rw [← hn] at hrun
  obtain ⟨P0, hP0⟩ : ∃ P0, P0 = RdPost r t a l line col (fun k n => if k = 1 then ((a + n : Nat) : Int) else name) w (Lx.wordT l) := ⟨_, rfl⟩
  rw [← hP0]
  have HP0 := Lib.hid hP0; clear hP0
  have HN := Lib.hid hn; clear hn
  go_enter Tryz.func94, Tryz.ntmps94
  go_wp2_with fail
  refine (rest_l h).mono ?_
  rintro e w1 ⟨⟨v, rfl, hv⟩, hk1⟩
  go_wp2_with fail
  refine (runB_c 112 Lx.wordy v l w1 hv (by omega) enters_isWord isWord_c).mono ?_
  rintro e w1' ⟨rfl, rfl⟩
  rw [← HN.out]
  have h1 := h.keep hk1 (by simp)
  go_wp2_with fail
  refine (colon_l n h1 (by omega) (by omega)).mono ?_
  rintro e w2 ⟨rfl, m, rfl⟩
  have h2 := h1.drew m
  have hk2 : Kp [r] w (w1.drewN m) := (hk1.drewN m).nil
  obtain ⟨w2, hw2⟩ : ∃ w2, w2 = w1.drewN m := ⟨_, rfl⟩
  rw [← hw2] at h2 hk2 ⊢
  obtain ⟨c, hc⟩ : ∃ c, c = Lx.colon l n := ⟨_, rfl⟩
  rw [← hc]
  have HC := Lib.hid hc; clear hc hw2
  have fa := h2.rdr.facts.1
  have hwT : Lx.wordT l = if (n : Int) ≤ 24 ∧ (Lx.small (Lx.nx l 0) = true ∨ c = 1) then .good (if Lx.large (Lx.nx l 0) = true then 3 else 1 + c) (l.take ((n : Int) + c).toNat) ((n : Int) + c).toNat else .bad 12 := by
    unfold Lx.wordT; rw [← HN.out]; simp only [← HC.out]
  have HW := Lib.hid hwT; clear hwT
  have hc01 : c = 0 ∨ c = 1 := by rw [HC.out]; exact Lx.colon_or l n
  have hfit : c = 1 → n < l.length := fun e => Lx.colon_lt (e.symm.trans HC.out)
  cases hz : decide ((n : Int) ≤ 24)
  · -- too long
    clear hc01 hfit
    go_wp2_with fail
    refine wp_draw_tail 16 (by kernel_rfl) (by kernel_rfl) ?_
    simp only [List.take_succ_cons, List.take_zero, List.drop_succ_cons, List.drop_zero]
    iterate 16 (go_big_quiet_step (first | (go_at_call 87; exact Calls.quiet_of (next_l 0 (h2.drew _) (by omega) (by omega))) | (go_at_call 59; exact quiet_same (hs _))))
    refine wpQuiet_nil ?_
    intro _ hw'
    obtain ⟨nq, hw''⟩ := hw'
    subst hw''
    go_wp2_with fail
    refine (need_no 12 a _).mono ?_
    rintro e w3 ⟨rfl, rfl⟩
    go_wp2
    refine ⟨rfl, ?_⟩
    rw [HP0.out, HW.out, if_neg (by simp at hz; omega)]
    exact ⟨hk2.drewN _, rfl⟩
  · cases hsm : Lx.small (Lx.nx l 0)
    all_goals
      have hs := small_of hsm
      have HS := Lib.hid hsm; clear hsm
      rcases hc01 with rfl | rfl
    · -- no small letter, no colon
      clear hfit
      go_wp2_with fail
      refine wp_draw_tail 16 (by kernel_rfl) (by kernel_rfl) ?_
      simp only [List.take_succ_cons, List.take_zero, List.drop_succ_cons, List.drop_zero]
      iterate 16 (go_big_quiet_step (first | (go_at_call 87; exact Calls.quiet_of (next_l 0 (h2.drew _) (by omega) (by omega))) | (go_at_call 59; exact quiet_same (hs _))))
      refine wpQuiet_nil ?_
      intro _ hw'
      obtain ⟨nq, hw''⟩ := hw'
      subst hw''
      go_wp2_with fail
      refine (need_no 12 a _).mono ?_
      rintro e w3 ⟨rfl, rfl⟩
      go_wp2
      refine ⟨rfl, ?_⟩
      rw [HP0.out, HW.out, if_neg (by rw [HS.out]; simp)]
      exact ⟨hk2.drewN _, rfl⟩
    all_goals
      have hfit' : (n : Int) + 1 ≤ l.length ∨ (n : Int) + 0 ≤ l.length := by omega
      cases hlg : Lx.large (Lx.nx l 0)
      all_goals
        have hg := large_of hlg
        have HG := Lib.hid hlg; clear hlg
        have HF := Lib.hid hfit; clear hfit
        clear hfit'
        go_wp2_with fail
        refine wp_draw_tail 16 (by kernel_rfl) (by kernel_rfl) ?_
        simp only [List.take_succ_cons, List.take_zero, List.drop_succ_cons, List.drop_zero]
        iterate 16 (go_big_quiet_step (first | (go_at_call 87; exact Calls.quiet_of (next_l 0 (h2.drew _) (by omega) (by omega))) | (go_at_call 59; exact quiet_same (hs _))))
        refine wpQuiet_nil ?_
        intro _ hw'
        obtain ⟨nq, hw''⟩ := hw'
        subst hw''
        go_wp2_with fail
        refine (need_yes 12 a _).mono ?_
        rintro e w3 ⟨rfl, rfl⟩
        go_wp2_with fail
        refine (next_l 0 (h2.drew _) (by omega) (by omega)).mono ?_
        rintro e w4 ⟨rfl, m4, rfl⟩
        go_wp2_with fail
        refine (hg _).mono ?_
        rintro e w5 ⟨rfl, rfl⟩
        go_wp2_with fail
        refine (forward_l _ (h2.drew _) (by omega) (by first | omega | (have := HF.out (by first | rfl | trivial); omega))).mono ?_
        rintro e w6 ⟨rfl, h6, hk6⟩
        obtain ⟨f0, f1, f2, f3, f4, fz, hlt6⟩ := h6.rdr.facts
        have hk7 : Kp [r] w w6 := (hk2.drewN _).trans hk6
        go_wp2
        rw [HP0.out, HW.out, if_pos ⟨by simp at hz; omega, by first | exact .inl HS.out | exact .inr (by first | rfl | trivial)⟩, HG.out]
        first
          | exact ⟨hk7, by simp, h6⟩
          | exact ⟨hk7, by simp, by simpa using h6⟩
          | (have h7 := h6.name' ((a : Int) + n); exact ⟨hk7.setCell (by simp) _, by simp, by simpa using h7⟩)

end Go.Proofs.YtogmealngeejmaaGreatDoor

/- The lexer: numbers, operators, primitives. -/
namespace Go.Proofs.YtogmealngeejmaaGreatDoor
open Go Go.RowKit

theorem enters_isDigit : Proofs.Enters Tryz.prog 97 := Proofs.enters_of Tryz.func97 (by kernel_rfl) rfl
theorem enters_isOp : Proofs.Enters Tryz.prog 31 := Proofs.enters_of Tryz.func31 (by kernel_rfl) rfl

set_option maxRecDepth 100000 in
set_option maxHeartbeats 1000000 in
theorem op_c {w : World} {r : Nat} {t : ByteArray} {a : Nat} {l : Lx.Bs} {line col name : Int} (h : RdL w r t a l line col name) :
    Calls Tryz.prog 101 #[.pointer (some ⟨r, 0, none⟩)] w (RdPost r t a l line col (fun _ _ => name) w (Lx.opT l)) := by
  have hlen := h.length
  have hsz := h.size
  have hlt := h.lt
  have hrun := Lx.run_le Lx.isop l
  have hwT : Lx.opT l = if ((Lx.run Lx.isop l : Nat) : Int) ≤ 3 then .good 7 (l.take (Lx.run Lx.isop l)) (Lx.run Lx.isop l) else .bad 12 := rfl
  obtain ⟨n, hn⟩ : ∃ n, n = Lx.run Lx.isop l := ⟨_, rfl⟩
  rw [← hn] at hrun hwT
  obtain ⟨P0, hP0⟩ : ∃ P0, P0 = RdPost r t a l line col (fun _ _ => name) w (Lx.opT l) := ⟨_, rfl⟩
  rw [← hP0]
  have HP0 := Lib.hid hP0; clear hP0
  have HN := Lib.hid hn; clear hn
  have HW := Lib.hid hwT; clear hwT
  go_enter Tryz.func101, Tryz.ntmps101
  go_wp2_with fail
  refine (rest_l h).mono ?_
  rintro e w1 ⟨⟨v, rfl, hv⟩, hk1⟩
  go_wp2_with fail
  refine (runB_c 31 Lx.isop v l w1 hv (by omega) enters_isOp isOp_c).mono ?_
  rintro e w1' ⟨rfl, rfl⟩
  rw [← HN.out]
  have h1 := h.keep hk1 (by simp)
  have fa := h1.rdr.facts.1
  cases hz : decide ((n : Int) ≤ 3)
  · go_wp2_with fail
    refine (need_no 12 a _).mono ?_
    rintro e w3 ⟨rfl, rfl⟩
    go_wp2
    refine ⟨rfl, ?_⟩
    rw [HP0.out, HW.out, if_neg (by simp at hz; omega)]
    exact ⟨hk1.nil, rfl⟩
  · go_wp2_with fail
    refine (need_yes 12 a _).mono ?_
    rintro e w3 ⟨rfl, rfl⟩
    go_wp2_with fail
    refine (forward_l _ h1 (by omega) (by omega)).mono ?_
    rintro e w6 ⟨rfl, h6, hk6⟩
    go_wp2
    rw [HP0.out, HW.out, if_pos (by simp at hz; omega)]
    exact ⟨hk1.nil.trans hk6, by simp, by simpa using h6⟩

set_option maxRecDepth 100000 in
set_option maxHeartbeats 1000000 in
theorem number_c {w : World} {r : Nat} {t : ByteArray} {a : Nat} {l : Lx.Bs} {line col name : Int} (h : RdL w r t a l line col name) :
    Calls Tryz.prog 98 #[.pointer (some ⟨r, 0, none⟩)] w (RdPost r t a l line col (fun _ _ => name) w (Lx.numT l)) := by
  have hlen := h.length
  have hsz := h.size
  have hlt := h.lt
  have hrun := Lx.run_le Lx.digit l
  have hwT : Lx.numT l = if ((Lx.run Lx.digit l : Nat) : Int) ≤ 400 ∧ (((Lx.run Lx.digit l : Nat) : Int) = 1 ∨ Lx.nx l 0 ≠ 48) then .good 5 (l.take (Lx.run Lx.digit l)) (Lx.run Lx.digit l) else .bad 12 := rfl
  obtain ⟨n, hn⟩ : ∃ n, n = Lx.run Lx.digit l := ⟨_, rfl⟩
  rw [← hn] at hrun hwT
  obtain ⟨P0, hP0⟩ : ∃ P0, P0 = RdPost r t a l line col (fun _ _ => name) w (Lx.numT l) := ⟨_, rfl⟩
  rw [← hP0]
  have HP0 := Lib.hid hP0; clear hP0
  have HN := Lib.hid hn; clear hn
  have HW := Lib.hid hwT; clear hwT
  go_enter Tryz.func98, Tryz.ntmps98
  go_wp2_with fail
  refine (rest_l h).mono ?_
  rintro e w1 ⟨⟨v, rfl, hv⟩, hk1⟩
  go_wp2_with fail
  refine (runB_c 97 Lx.digit v l w1 hv (by omega) enters_isDigit isDigit_c).mono ?_
  rintro e w1' ⟨rfl, rfl⟩
  rw [← HN.out]
  have h1 := h.keep hk1 (by simp)
  have fa := h1.rdr.facts.1
  cases hz : decide ((n : Int) ≤ 400)
  · go_wp2_with fail
    refine wp_draw_tail 16 (by kernel_rfl) (by kernel_rfl) ?_
    simp only [List.take_succ_cons, List.take_zero, List.drop_succ_cons, List.drop_zero]
    iterate 16 (go_big_quiet_step (fail))
    refine wpQuiet_nil ?_
    intro _ hw'
    obtain ⟨nq, hw''⟩ := hw'
    subst hw''
    go_wp2_with fail
    refine (need_no 12 a _).mono ?_
    rintro e w3 ⟨rfl, rfl⟩
    go_wp2
    refine ⟨rfl, ?_⟩
    rw [HP0.out, HW.out, if_neg (by simp at hz; omega)]
    exact ⟨hk1.nil.drewN _, rfl⟩
  · cases h1n : ((n : Int) == 1)
    · cases h48 : (((Lx.nx l 0).toNat : Int) != 48)
      all_goals
        go_wp2_with fail
        refine wp_draw_tail 16 (by kernel_rfl) (by kernel_rfl) ?_
        simp only [List.take_succ_cons, List.take_zero, List.drop_succ_cons, List.drop_zero]
        iterate 16 (go_big_quiet_step ((go_at_call 87; exact Calls.quiet_of (next_l 0 (h1.drew _) (by omega) (by omega)))))
        refine wpQuiet_nil ?_
        intro _ hw'
        obtain ⟨nq, hw''⟩ := hw'
        subst hw''
        go_wp2_with fail
      · refine (need_no 12 a _).mono ?_
        rintro e w3 ⟨rfl, rfl⟩
        go_wp2
        refine ⟨rfl, ?_⟩
        rw [HP0.out, HW.out, if_neg (fun h' => h'.2.elim (fun h' => by simp [h'] at h1n) (fun h' => h' (byte_is (n := 48) (by simp at h48; omega))))]
        exact ⟨hk1.nil.drewN _, rfl⟩
      · refine (need_yes 12 a _).mono ?_
        rintro e w3 ⟨rfl, rfl⟩
        go_wp2_with fail
        refine (forward_l _ (h1.drew _) (by omega) (by omega)).mono ?_
        rintro e w6 ⟨rfl, h6, hk6⟩
        go_wp2
        rw [HP0.out, HW.out, if_pos ⟨by simp at hz; omega, .inr (by intro e; rw [e] at h48; simp at h48)⟩]
        exact ⟨(hk1.nil.drewN _).trans hk6, by simp, by simpa using h6⟩
    · go_wp2_with fail
      refine wp_draw_tail 16 (by kernel_rfl) (by kernel_rfl) ?_
      simp only [List.take_succ_cons, List.take_zero, List.drop_succ_cons, List.drop_zero]
      iterate 16 (go_big_quiet_step (fail))
      refine wpQuiet_nil ?_
      intro _ hw'
      obtain ⟨nq, hw''⟩ := hw'
      subst hw''
      go_wp2_with fail
      refine (need_yes 12 a _).mono ?_
      rintro e w3 ⟨rfl, rfl⟩
      go_wp2_with fail
      refine (forward_l _ (h1.drew _) (by omega) (by omega)).mono ?_
      rintro e w6 ⟨rfl, h6, hk6⟩
      go_wp2
      rw [HP0.out, HW.out, if_pos ⟨by simp at hz; omega, .inl (by simp at h1n; omega)⟩]
      exact ⟨(hk1.nil.drewN _).trans hk6, by simp, by simpa using h6⟩

theorem BSl_drop1 {w : World} {b o cp : Nat} {l : Lx.Bs} (hb : b < w.heap.size) (hc : ∀ j, j < l.length → w.cell? ⟨b, o + j, none⟩ = some (.int .u8 (l.getD j 0).toNat)) (hcp : l.length ≤ cp) (hpos : 1 ≤ l.length) :
    (cp ≠ 1 → BSl w (.slice (some ⟨b, o + 1, none⟩) (l.length - 1) (cp - 1)) (l.drop 1)) ∧ (cp = 1 → BSl w (.slice (some ⟨b, o, none⟩) (l.length - 1) 0) (l.drop 1)) := by
  refine ⟨fun _ => ⟨_, _, by rw [List.length_drop], by rw [List.length_drop]; omega, fun _ => ⟨b, o + 1, rfl, hb, fun j hj => ?_⟩⟩, fun e => ⟨_, _, by rw [List.length_drop], by rw [List.length_drop]; omega, fun hn => ?_⟩⟩
  · rw [List.length_drop] at hj
    rw [show o + 1 + j = o + (1 + j) by omega, hc (1 + j) (by omega)]
    simp [List.getD, Nat.add_comm 1 j]
  · exact absurd (List.eq_nil_of_length_eq_zero (by rw [List.length_drop]; omega)) hn

set_option maxRecDepth 100000 in
set_option maxHeartbeats 1000000 in
theorem prim_c {w : World} {r : Nat} {t : ByteArray} {a : Nat} {l : Lx.Bs} {line col name : Int} (h : RdL w r t a l line col name) (hne : l ≠ []) :
    Calls Tryz.prog 96 #[.pointer (some ⟨r, 0, none⟩)] w (RdPost r t a l line col (fun _ _ => name) w (Lx.primT l)) := by
  have hlen := h.length
  have hsz := h.size
  have hlt := h.lt
  have hpos : 1 ≤ l.length := List.length_pos_iff.2 hne
  have hrun := Lx.run_le Lx.wordy (l.drop 1)
  rw [List.length_drop] at hrun
  obtain ⟨n, hn⟩ : ∃ n, n = Lx.run Lx.wordy (l.drop 1) := ⟨_, rfl⟩
  have hwT : Lx.primT l = if 1 ≤ (n : Int) ∧ (n : Int) ≤ 24 ∧ Lx.large (Lx.nx l 1) = true then .good 4 (l.take (1 + (n : Int) + Lx.colon l (1 + n)).toNat) (1 + (n : Int) + Lx.colon l (1 + n)).toNat else .bad 12 := by
    rw [hn]; rfl
  rw [← hn] at hrun
  obtain ⟨P0, hP0⟩ : ∃ P0, P0 = RdPost r t a l line col (fun _ _ => name) w (Lx.primT l) := ⟨_, rfl⟩
  rw [← hP0]
  have HP0 := Lib.hid hP0; clear hP0
  have HN := Lib.hid hn; clear hn
  have HW := Lib.hid hwT; clear hwT
  go_enter Tryz.func96, Tryz.ntmps96
  go_wp2_with fail
  refine (rest_l h).mono ?_
  rintro e w1 ⟨⟨v, rfl, hv⟩, hk1⟩
  have h1 := h.keep hk1 (by simp)
  have fa := h1.rdr.facts.1
  obtain ⟨ad, cp, rfl, hcp, hcell⟩ := hv
  obtain ⟨b, o, rfl, hb, hcj⟩ := hcell hne
  have HCJ := Lib.hid hcj; clear hcj hcell
  obtain ⟨hB1, hB2⟩ := BSl_drop1 hb HCJ.out hcp hpos
  have H1 := Lib.hid hB1; clear hB1
  have H2 := Lib.hid hB2; clear hB2
  go_wp2_with fail
  all_goals
    refine (runB_c 112 Lx.wordy _ (l.drop 1) w1 (by first | exact H1.out ‹_› | exact H2.out ‹_› | exact H2.out rfl) (by rw [List.length_drop]; omega) enters_isWord isWord_c).mono ?_
    rintro e w1' ⟨rfl, rfl⟩
    rw [← HN.out]
    cases hz1 : decide (1 ≤ (n : Int))
    · go_wp2_with fail
      have hg : True := trivial
      refine wp_draw_tail 16 (by kernel_rfl) (by kernel_rfl) ?_
      simp only [List.take_succ_cons, List.take_zero, List.drop_succ_cons, List.drop_zero]
      iterate 16 (go_big_quiet_step (first | (go_at_call 87; exact Calls.quiet_of (next_l 1 (h1.drew _) (by omega) (by omega))) | (go_at_call 60; fail)))
      refine wpQuiet_nil ?_
      intro _ hw'
      obtain ⟨nq, hw''⟩ := hw'
      subst hw''
      go_wp2_with fail
      refine (need_no 12 a _).mono ?_
      rintro e w3 ⟨rfl, rfl⟩
      go_wp2
      refine ⟨rfl, ?_⟩
      rw [HP0.out, HW.out, if_neg (by simp at hz1; omega)]
      exact ⟨hk1.nil.drewN _, rfl⟩
    · cases hz : decide ((n : Int) ≤ 24)
      · go_wp2_with fail
        refine wp_draw_tail 16 (by kernel_rfl) (by kernel_rfl) ?_
        simp only [List.take_succ_cons, List.take_zero, List.drop_succ_cons, List.drop_zero]
        iterate 16 (go_big_quiet_step (first | (go_at_call 87; exact Calls.quiet_of (next_l 1 (h1.drew _) (by omega) (by omega))) | (go_at_call 60; fail)))
        refine wpQuiet_nil ?_
        intro _ hw'
        obtain ⟨nq, hw''⟩ := hw'
        subst hw''
        go_wp2_with fail
        refine (need_no 12 a _).mono ?_
        rintro e w3 ⟨rfl, rfl⟩
        go_wp2
        refine ⟨rfl, ?_⟩
        rw [HP0.out, HW.out, if_neg (by simp at hz; omega)]
        exact ⟨hk1.nil.drewN _, rfl⟩
      · cases hlg : Lx.large (Lx.nx l 1)
        all_goals
          have hg := large_of hlg
          have HG := Lib.hid hlg; clear hlg
          go_wp2_with fail
          refine wp_draw_tail 16 (by kernel_rfl) (by kernel_rfl) ?_
          simp only [List.take_succ_cons, List.take_zero, List.drop_succ_cons, List.drop_zero]
          iterate 16 (go_big_quiet_step (first | (go_at_call 87; exact Calls.quiet_of (next_l 1 (h1.drew _) (by omega) (by omega))) | (go_at_call 60; exact quiet_same (hg _))))
          refine wpQuiet_nil ?_
          intro _ hw'
          obtain ⟨nq, hw''⟩ := hw'
          subst hw''
          go_wp2_with fail
        · refine (need_no 12 a _).mono ?_
          rintro e w3 ⟨rfl, rfl⟩
          go_wp2
          refine ⟨rfl, ?_⟩
          rw [HP0.out, HW.out, if_neg (by rw [HG.out]; simp)]
          exact ⟨hk1.nil.drewN _, rfl⟩
        · refine (need_yes 12 a _).mono ?_
          rintro e w3 ⟨rfl, rfl⟩
          have hc01 := Lx.colon_or l (1 + (n : Int))
          have hfit : Lx.colon l (1 + (n : Int)) = 1 → n + 1 < l.length := fun e => Lx.colon_lt (n := n + 1) (by rw [← e]; congr 1; omega)
          obtain ⟨c, hc⟩ : ∃ c, c = Lx.colon l (1 + (n : Int)) := ⟨_, rfl⟩
          have HC := Lib.hid hc
          rw [← hc] at hc01 hfit
          clear hc
          have hc0 : 0 ≤ c := by omega
          have hc1 : c ≤ 1 := by omega
          have hfit2 : 1 + (n : Int) + c ≤ l.length := by rcases hc01 with h | h <;> omega
          clear hc01 hfit
          go_wp2_with fail
          refine (colon_l _ (h1.drew _) (by omega) (by omega)).mono ?_
          rintro e w4 ⟨rfl, m4, rfl⟩
          rw [← HC.out]
          go_wp2_with fail
          refine (forward_l _ (h1.drew _) (by omega) (by omega)).mono ?_
          rintro e w6 ⟨rfl, h6, hk6⟩
          go_wp2
          rw [HP0.out, HW.out, if_pos ⟨by simp at hz1; omega, by simp at hz; omega, HG.out⟩, ← HC.out]
          exact ⟨(hk1.nil.drewN _).trans hk6, by simp, h6⟩

end Go.Proofs.YtogmealngeejmaaGreatDoor
