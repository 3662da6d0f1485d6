import Derived.Test.YtogmealngeejmaaGreatDoorJoined3
/- The reference's small functions: bytes, runs. -/
namespace Go.Proofs.YtogmealngeejmaaGreatDoor
open Go Go.RowKit

/-- A byte of a string, by its index. -/
theorem ix_byte (s : ByteArray) (j : Nat) (h : j < s.size) {c : UInt8} (hc : s.data.toList.getD j 0 = c) (W : World) :
    (Instr.index 9 (.string s) (.int .i64 (j : Int))).run Tryz.prog W = .ok (.int .u8 c.toNat) W := by
  rw [run_index_string _ _ _ _ _ Tryz.underlying9, ← hc, getD_byte s j h]
  simp [h]

set_option maxRecDepth 100000 in
set_option maxHeartbeats 400000 in
theorem rSmall_c (b : UInt8) (w : World) : Calls Tryz.prog 63 #[.int .u8 b.toNat] w fun e w' => e = .returned (.bool (Lx.small b)) ∧ w = w' := by
  have hb := byte_lt b
  unfold Lx.small
  go_enter Tryz.func63, Tryz.ntmps63
  go_wp2
  all_goals go_ret
  all_goals simp [*]
  omega

set_option maxRecDepth 100000 in
set_option maxHeartbeats 400000 in
theorem rCapital_c (b : UInt8) (w : World) : Calls Tryz.prog 64 #[.int .u8 b.toNat] w fun e w' => e = .returned (.bool (Lx.large b)) ∧ w = w' := by
  have hb := byte_lt b
  unfold Lx.large
  go_enter Tryz.func64, Tryz.ntmps64
  go_wp2
  all_goals go_ret
  all_goals simp [*]
  omega

set_option maxRecDepth 100000 in
set_option maxHeartbeats 400000 in
theorem rDigit_c (b : UInt8) (w : World) : Calls Tryz.prog 73 #[.int .u8 b.toNat] w fun e w' => e = .returned (.bool (Lx.digit b)) ∧ w = w' := by
  have hb := byte_lt b
  unfold Lx.digit
  go_enter Tryz.func73, Tryz.ntmps73
  go_wp2
  all_goals go_ret
  all_goals simp [*]
  omega

set_option maxRecDepth 100000 in
set_option maxHeartbeats 400000 in
theorem rLetter_c (b : UInt8) (w : World) : Calls Tryz.prog 37 #[.int .u8 b.toNat] w fun e w' => e = .returned (.bool (Lx.letter b)) ∧ w = w' := by
  have hb := byte_lt b
  unfold Lx.letter
  cases hs : Lx.small b
  all_goals
    have HS := Lib.hid hs; clear hs
    go_enter Tryz.func37, Tryz.ntmps37
    go_wp2_with (first | (go_at_call 63; refine (rSmall_c b _).mono ?_; rintro e w' ⟨rfl, rfl⟩; rw [HS.out]) | (go_at_call 64; refine (rCapital_c b _).mono ?_; rintro e w' ⟨rfl, rfl⟩))
    go_ret
    exact ⟨by simp, rfl⟩

theorem drop_getD {l : Lx.Bs} {j : Nat} (h : j < l.length) : l.drop j = l.getD j 0 :: l.drop (j + 1) := by
  rw [List.drop_eq_getElem_cons h]; simp [List.getD, h]

set_option maxRecDepth 100000 in
set_option maxHeartbeats 1000000 in
theorem rIn_c (b : UInt8) (s : ByteArray) (w : World) (hs : s.size ≤ 1100000) : Calls Tryz.prog 38 #[.int .u8 b.toNat, .string s] w fun e w' => e = .returned (.bool (s.data.toList.contains b)) ∧ w = w' := by
  obtain ⟨P0, hP0⟩ : ∃ P0 : Ending → World → Prop, P0 = fun e w' => e = .returned (.bool (s.data.toList.contains b)) ∧ w = w' := ⟨_, rfl⟩
  rw [← hP0]
  have HP0 := Lib.hid hP0; clear hP0
  have hb := byte_lt b
  go_enter Tryz.func38, Tryz.ntmps38
  go_wp2_with fail
  go_loopg [5] s.size (fun n x wr => ∃ k : Nat, n = s.size - k ∧ x = .int .i64 k ∧ k ≤ s.size ∧ Hid (s.data.toList.contains b = (s.data.toList.drop k).contains b) ∧ wr = w)
  case atStart => exact ⟨0, rfl, rfl, Nat.zero_le _, by simp [Hid], rfl⟩
  case round =>
    obtain ⟨k, rfl, rfl, hk, HC, rfl⟩ := hrel
    by_cases hkl : k < s.size
    · have b1 : decide ((k : Int) < s.size) = true := decide_eq_true (by omega)
      obtain ⟨c, hc⟩ : ∃ c, s.data.toList.getD k 0 = c := ⟨_, rfl⟩
      have hix := ix_byte s k hkl hc
      have hd := drop_getD (l := s.data.toList) (j := k) (by rw [size_list]; exact hkl)
      rw [hc] at hd
      have HD := Lib.hid hd; clear hd hc
      have hcl := byte_lt c
      by_cases hcb : c = b
      · have q1 : (((c.toNat : Nat) : Int) == (b.toNat : Int)) = true := by simp [hcb]
        have HQ : Hid (s.data.toList.contains b = true) := Lib.hid (by rw [HC.out, HD.out, hcb]; simp)
        clear hcb
        go_wp2_with fail
        rw [HP0.out]
        exact ⟨by rw [HQ.out]; rfl, rfl⟩
      · have q1 : (((c.toNat : Nat) : Int) == (b.toNat : Int)) = false := by
          have : c.toNat ≠ b.toNat := fun e => hcb (UInt8.toNat_inj.1 e)
          simpa using fun h => this (by omega)
        have HQ : Hid (s.data.toList.contains b = (s.data.toList.drop (k + 1)).contains b) := Lib.hid (by
          rw [HC.out, HD.out, List.contains_cons]
          have : (b == c) = false := by simpa using fun h => hcb h.symm
          rw [this]; rfl)
        clear hcb
        go_wp2_with fail
        go_roundg (s.size - (k + 1))
        case measure => omega
        case rel => exact ⟨k + 1, rfl, by simp, by omega, HQ, rfl⟩
    · have b1 : decide ((k : Int) < s.size) = false := decide_eq_false (by omega)
      have HQ : Hid (s.data.toList.contains b = false) := Lib.hid (by
        rw [HC.out, List.drop_eq_nil_of_le (by rw [size_list]; omega)]; rfl)
      go_wp2_with fail
      rw [HP0.out]
      exact ⟨by rw [HQ.out]; rfl, rfl⟩

theorem Lx.run_drop_yes {p : UInt8 → Bool} {l : Lx.Bs} {j : Nat} (h : j < l.length) (hp : p (l.getD j 0) = true) : Lx.run p (l.drop j) = 1 + Lx.run p (l.drop (j + 1)) := by
  rw [drop_getD h]; unfold Lx.run; rw [List.takeWhile_cons, if_pos hp, List.length_cons]; omega
theorem Lx.run_drop_no {p : UInt8 → Bool} {l : Lx.Bs} {j : Nat} (h : j < l.length) (hp : p (l.getD j 0) = false) : Lx.run p (l.drop j) = 0 := by
  rw [drop_getD h]; unfold Lx.run; rw [List.takeWhile_cons, if_neg (by rw [hp]; decide)]; rfl
theorem Lx.run_drop_end {p : UInt8 → Bool} {l : Lx.Bs} {j : Nat} (h : l.length ≤ j) : Lx.run p (l.drop j) = 0 := by
  rw [List.drop_eq_nil_of_le h]; rfl

set_option maxRecDepth 100000 in
set_option maxHeartbeats 1000000 in
theorem rWord_c (s : ByteArray) (a : Nat) (w : World) (hs : s.size ≤ 1100000) (ha : a ≤ s.size) : Calls Tryz.prog 88 #[.string s, .int .i64 a] w fun e w' => e = .returned (.int .i64 (Lx.run Lx.wordy (s.data.toList.drop a) : Nat)) ∧ w = w' := by
  obtain ⟨P0, hP0⟩ : ∃ P0 : Ending → World → Prop, P0 = fun e w' => e = .returned (.int .i64 (Lx.run Lx.wordy (s.data.toList.drop a) : Nat)) ∧ w = w' := ⟨_, rfl⟩
  rw [← hP0]
  have HP0 := Lib.hid hP0; clear hP0
  go_enter Tryz.func88, Tryz.ntmps88
  go_wp2_with fail
  go_loopg [5] s.size (fun n x wr => ∃ k : Nat, n = s.size - k ∧ x = .int .i64 k ∧ a + k ≤ s.size ∧ Hid (Lx.run Lx.wordy (s.data.toList.drop a) = k + Lx.run Lx.wordy (s.data.toList.drop (a + k))) ∧ wr = w)
  case atStart => exact ⟨0, rfl, rfl, ha, by simp [Hid], rfl⟩
  case round =>
    obtain ⟨k, rfl, rfl, hk, HC, rfl⟩ := hrel
    have z1 : IntKind.i64.wrap ((a : Int) + k) = ((a + k : Nat) : Int) := by rw [show (a : Int) + k = ((a + k : Nat) : Int) by omega]; exact Go.IntWalk.i64_in _ (by omega)
    obtain ⟨j, hj⟩ : ∃ j, a + k = j := ⟨_, rfl⟩
    have z2 : (a : Int) + k = (j : Int) := by omega
    rw [hj] at z1 HC hk
    by_cases hkl : j < s.size
    · have b1 : decide ((j : Int) < s.size) = true := decide_eq_true (by omega)
      obtain ⟨c, hc⟩ : ∃ c, s.data.toList.getD j 0 = c := ⟨_, rfl⟩
      have hix := ix_byte s j hkl hc
      have hy := @Lx.run_drop_yes Lx.wordy s.data.toList j (by rw [size_list]; exact hkl)
      have hn := @Lx.run_drop_no Lx.wordy s.data.toList j (by rw [size_list]; exact hkl)
      rw [hc] at hy hn
      have HY := Lib.hid hy; clear hy
      have HN := Lib.hid hn; clear hn hc
      have HJ := Lib.hid hj; clear hj
      cases hl : Lx.letter c
      · have HL := Lib.hid hl; clear hl
        cases hd : Lx.digit c
        · have HQ : Hid (Lx.run Lx.wordy (s.data.toList.drop a) = k) := Lib.hid (by rw [HC.out]; have := HN.out (by unfold Lx.wordy; rw [HL.out, hd]; rfl); omega)
          have HD := Lib.hid hd; clear hd
          go_wp2_with fail
          refine (rLetter_c c wr).mono ?_
          rintro e w' ⟨rfl, rfl⟩
          rw [HL.out]
          go_wp2_with fail
          refine (rDigit_c c wr).mono ?_
          rintro e w' ⟨rfl, rfl⟩
          rw [HD.out]
          go_wp2_with fail
          rw [HP0.out]
          exact ⟨by rw [HQ.out]; rfl, rfl⟩
        · have HQ : Hid (Lx.run Lx.wordy (s.data.toList.drop a) = (k + 1) + Lx.run Lx.wordy (s.data.toList.drop (a + (k + 1)))) := Lib.hid (by rw [HC.out]; have := HY.out (by unfold Lx.wordy; rw [HL.out, hd]; rfl); rw [show a + (k + 1) = j + 1 by have := HJ.out; omega]; omega)
          have HD := Lib.hid hd; clear hd
          have HJ2 := HJ.out
          have hj3 : a + (k + 1) ≤ s.size := by omega
          clear HJ2
          go_wp2_with fail
          refine (rLetter_c c wr).mono ?_
          rintro e w' ⟨rfl, rfl⟩
          rw [HL.out]
          go_wp2_with fail
          refine (rDigit_c c wr).mono ?_
          rintro e w' ⟨rfl, rfl⟩
          rw [HD.out]
          go_wp2_with fail
          go_roundg (s.size - (k + 1))
          case measure => omega
          case rel => exact ⟨k + 1, rfl, by simp, hj3, HQ, rfl⟩
      · have HQ : Hid (Lx.run Lx.wordy (s.data.toList.drop a) = (k + 1) + Lx.run Lx.wordy (s.data.toList.drop (a + (k + 1)))) := Lib.hid (by rw [HC.out]; have := HY.out (by unfold Lx.wordy; rw [hl]; rfl); rw [show a + (k + 1) = j + 1 by have := HJ.out; omega]; omega)
        have HL := Lib.hid hl; clear hl
        have HJ2 := HJ.out
        have hj3 : a + (k + 1) ≤ s.size := by omega
        clear HJ2
        go_wp2_with fail
        refine (rLetter_c c wr).mono ?_
        rintro e w' ⟨rfl, rfl⟩
        rw [HL.out]
        go_wp2_with fail
        go_roundg (s.size - (k + 1))
        case measure => omega
        case rel => exact ⟨k + 1, rfl, by simp, hj3, HQ, rfl⟩
    · have b1 : decide ((j : Int) < s.size) = false := decide_eq_false (by omega)
      have HQ : Hid (Lx.run Lx.wordy (s.data.toList.drop a) = k) := Lib.hid (by rw [HC.out, Lx.run_drop_end (by rw [size_list]; omega)]; rfl)
      have HJ := Lib.hid hj; clear hj
      go_wp2_with fail
      rw [HP0.out]
      exact ⟨by rw [HQ.out]; rfl, rfl⟩

set_option maxRecDepth 100000 in
set_option maxHeartbeats 1000000 in
theorem rSome_c (s : ByteArray) (a : Nat) (q : ByteArray) (w : World) (hs : s.size ≤ 1100000) (ha : a ≤ s.size) (hq : q.size ≤ 1100000) : Calls Tryz.prog 74 #[.string s, .int .i64 a, .string q] w fun e w' => e = .returned (.int .i64 (Lx.run q.data.toList.contains (s.data.toList.drop a) : Nat)) ∧ w = w' := by
  obtain ⟨P0, hP0⟩ : ∃ P0 : Ending → World → Prop, P0 = fun e w' => e = .returned (.int .i64 (Lx.run q.data.toList.contains (s.data.toList.drop a) : Nat)) ∧ w = w' := ⟨_, rfl⟩
  rw [← hP0]
  have HP0 := Lib.hid hP0; clear hP0
  go_enter Tryz.func74, Tryz.ntmps74
  go_wp2_with fail
  go_loopg [7] s.size (fun n x wr => ∃ k : Nat, n = s.size - k ∧ x = .int .i64 k ∧ a + k ≤ s.size ∧ Hid (Lx.run q.data.toList.contains (s.data.toList.drop a) = k + Lx.run q.data.toList.contains (s.data.toList.drop (a + k))) ∧ wr = w)
  case atStart => exact ⟨0, rfl, rfl, ha, by simp [Hid], rfl⟩
  case round =>
    obtain ⟨k, rfl, rfl, hk, HC, rfl⟩ := hrel
    have z1 : IntKind.i64.wrap ((a : Int) + k) = ((a + k : Nat) : Int) := by rw [show (a : Int) + k = ((a + k : Nat) : Int) by omega]; exact Go.IntWalk.i64_in _ (by omega)
    obtain ⟨j, hj⟩ : ∃ j, a + k = j := ⟨_, rfl⟩
    have z2 : (a : Int) + k = (j : Int) := by omega
    rw [hj] at z1 HC hk
    by_cases hkl : j < s.size
    · have b1 : decide ((j : Int) < s.size) = true := decide_eq_true (by omega)
      obtain ⟨c, hc⟩ : ∃ c, s.data.toList.getD j 0 = c := ⟨_, rfl⟩
      have hix := ix_byte s j hkl hc
      have hy := @Lx.run_drop_yes q.data.toList.contains s.data.toList j (by rw [size_list]; exact hkl)
      have hn := @Lx.run_drop_no q.data.toList.contains s.data.toList j (by rw [size_list]; exact hkl)
      rw [hc] at hy hn
      have HY := Lib.hid hy; clear hy
      have HN := Lib.hid hn; clear hn hc
      have HJ := Lib.hid hj; clear hj
      cases hl : q.data.toList.contains c
      · have HQ : Hid (Lx.run q.data.toList.contains (s.data.toList.drop a) = k) := Lib.hid (by rw [HC.out]; have := HN.out hl; omega)
        have HL := Lib.hid hl; clear hl
        go_wp2_with fail
        refine (rIn_c c q wr hq).mono ?_
        rintro e w' ⟨rfl, rfl⟩
        rw [HL.out]
        go_wp2_with fail
        rw [HP0.out]
        exact ⟨by rw [HQ.out]; rfl, rfl⟩
      · have HQ : Hid (Lx.run q.data.toList.contains (s.data.toList.drop a) = (k + 1) + Lx.run q.data.toList.contains (s.data.toList.drop (a + (k + 1)))) := Lib.hid (by rw [HC.out]; have := HY.out hl; rw [show a + (k + 1) = j + 1 by have := HJ.out; omega]; omega)
        have HL := Lib.hid hl; clear hl
        have HJ2 := HJ.out
        have hj3 : a + (k + 1) ≤ s.size := by omega
        clear HJ2
        go_wp2_with fail
        refine (rIn_c c q wr hq).mono ?_
        rintro e w' ⟨rfl, rfl⟩
        rw [HL.out]
        go_wp2_with fail
        go_roundg (s.size - (k + 1))
        case measure => omega
        case rel => exact ⟨k + 1, rfl, by simp, hj3, HQ, rfl⟩
    · have b1 : decide ((j : Int) < s.size) = false := decide_eq_false (by omega)
      have HQ : Hid (Lx.run q.data.toList.contains (s.data.toList.drop a) = k) := Lib.hid (by rw [HC.out, Lx.run_drop_end (by rw [size_list]; omega)]; rfl)
      have HJ := Lib.hid hj; clear hj
      go_wp2_with fail
      rw [HP0.out]
      exact ⟨by rw [HQ.out]; rfl, rfl⟩

end Go.Proofs.YtogmealngeejmaaGreatDoor
