import Derived.Test.YtogmealngeejmaaGreatDoorJoined16
import Derived.Test.YtogmealngeejmaaGreatDoorJoined17
/- The reference: words, strings, the first token. -/
namespace Go.Proofs.YtogmealngeejmaaGreatDoor
open Go Go.RowKit

/-- What the reading of a token hands back. -/
def RTok (r : Lx.Tk) (e : Ending) : Prop := match r with
  | .good k tx m => e = .returned (.tuple #[.agg #[.int .i64 k, .string ⟨tx.toArray⟩, .int .i64 0, .int .i64 0], .int .i64 m, .int .i64 0])
  | .bad er => ∃ (x : Tok) (n : Int), e = .returned (.tuple #[encTk x, .int .i64 n, .int .i64 er])

theorem ext_take (s : ByteArray) (a b : Nat) : s.extract a b = ⟨((s.data.toList.drop a).take (b - a)).toArray⟩ := by
  have e0 : ∀ x : ByteArray, x = ⟨x.data.toList.toArray⟩ := fun x => by cases x; simp
  rw [e0 (s.extract a b), ext_list]

theorem Lx.nx_drop (l : Lx.Bs) (a : Nat) (i : Nat) : Lx.nx (l.drop a) i = l.getD (a + i) 0 := by
  simp [Lx.nx, List.getD, List.getElem?_drop]
theorem Lx.nx_drop0 (l : Lx.Bs) (a : Nat) : Lx.nx (l.drop a) 0 = l.getD a 0 := by
  simp [Lx.nx, List.getD, List.getElem?_drop]

theorem letter_digit {c : UInt8} (h : Lx.letter c = true) : Lx.digit c = false := by
  simp only [Lx.letter, Lx.small, Lx.large, Lx.digit, Bool.or_eq_true, Bool.and_eq_true, decide_eq_true_eq, Bool.and_eq_false_iff, decide_eq_false_iff_not] at h ⊢
  omega
theorem letter_small {c : UInt8} (h : Lx.letter c = true) : Lx.small c = !Lx.large c := by
  simp only [Lx.letter, Bool.or_eq_true] at h
  cases hl : Lx.large c
  · rcases h with h | h
    · rw [h]; rfl
    · rw [hl] at h; cases h
  · simp only [Lx.small, Lx.large, Bool.and_eq_true, decide_eq_true_eq, Bool.not_true, Bool.and_eq_false_iff, decide_eq_false_iff_not] at hl ⊢
    omega

theorem bytes_back (s : ByteArray) : (⟨s.data.toList.toArray⟩ : ByteArray) = s := by cases s; simp
theorem digit_large {c : UInt8} (h : Lx.digit c = true) : Lx.large c = false := by
  simp only [Lx.large, Lx.digit, Bool.and_eq_true, decide_eq_true_eq, Bool.and_eq_false_iff, decide_eq_false_iff_not] at h ⊢
  omega

/-- Whether a colon stands at a place. -/
theorem Lx.colon_at (s : ByteArray) (a n : Nat) : Lx.colon (s.data.toList.drop a) (n : Int) = if a + n < s.size ∧ s.data.toList.getD (a + n) 0 = 58 then 1 else 0 := by
  unfold Lx.colon
  rw [Lx.nx_drop]
  by_cases h1 : a + n < s.size
  · by_cases h2 : s.data.toList.getD (a + n) 0 = 58
    · have hq : (((s.data.toList.getD (a + n) 0).toNat : Int) == 58) = true := by rw [h2]; rfl
      rw [if_pos hq, if_pos ⟨h1, h2⟩]
    · have hq : ¬ (((s.data.toList.getD (a + n) 0).toNat : Int) == 58) = true := by
        intro h
        rw [beq_iff_eq] at h
        exact h2 ((byte_is (n := 58) (by omega)).trans rfl)
      rw [if_neg hq, if_neg (fun h => h2 h.2)]
  · rw [getD_past s _ (by omega), if_neg (by decide), if_neg (fun h => h1 h.1)]




set_option maxRecDepth 100000 in
set_option maxHeartbeats 2000000 in
theorem rWordlyL_c (s : ByteArray) (a : Nat) (w : World) (hs : s.size ≤ 1100000) (ha : a < s.size) {c : UInt8} (hc : s.data.toList.getD a 0 = c) (hlet : Lx.letter c = true) :
    Calls Tryz.prog 71 #[.string s, .int .i64 a] w fun e w' => RTok (Lx.wordT (s.data.toList.drop a)) e ∧ Kp [] w w' := by
  obtain ⟨P0, hP0⟩ : ∃ P0 : Ending → World → Prop, P0 = fun e w' => RTok (Lx.wordT (s.data.toList.drop a)) e ∧ Kp [] w w' := ⟨_, rfl⟩
  rw [← hP0]
  have HP0 := Lib.hid hP0; clear hP0
  have hl := size_list s
  have hw := rWord_c s a
  have hrn := Lx.run_le Lx.wordy (s.data.toList.drop a)
  rw [List.length_drop, hl] at hrn
  have hr1 : 1 ≤ Lx.run Lx.wordy (s.data.toList.drop a) := by
    rw [Lx.run_drop_yes (by rw [hl]; exact ha) (by rw [hc]; unfold Lx.wordy; rw [hlet]; rfl)]; omega
  have hT : Lx.wordT (s.data.toList.drop a) = (let n : Int := Lx.run Lx.wordy (s.data.toList.drop a); let k := Lx.colon (s.data.toList.drop a) n
    if n ≤ 24 ∧ (Lx.small (Lx.nx (s.data.toList.drop a) 0) = true ∨ k = 1) then .good (if Lx.large (Lx.nx (s.data.toList.drop a) 0) = true then 3 else 1 + k) ((s.data.toList.drop a).take (n + k).toNat) (n + k).toNat else .bad 12) := rfl
  obtain ⟨n, hn⟩ : ∃ n, n = Lx.run Lx.wordy (s.data.toList.drop a) := ⟨_, rfl⟩
  rw [← hn] at hw hrn hr1 hT
  rw [Lx.nx_drop0, hc, letter_small hlet] at hT
  simp only at hT
  have hcol := Lx.colon_at s a n
  have hdig := letter_digit hlet
  have hix := ix_byte s a ha hc
  have hcl := byte_lt c
  have q1 : (((c.toNat : Nat) : Int) == 95) = false := by
    simp only [Lx.letter, Lx.small, Lx.large, Bool.or_eq_true, Bool.and_eq_true, decide_eq_true_eq] at hlet
    simpa using fun h => by omega
  clear hn hc
  have HDIG := Lib.hid hdig; clear hdig
  have HLET := Lib.hid hlet; clear hlet
  have HW := Lib.hid hw; clear hw
  obtain ⟨t, ht⟩ : ∃ t, a + n = t := ⟨_, rfl⟩
  rw [ht] at hcol
  have z0 : IntKind.i64.wrap ((a : Int) + n) = (t : Int) := by rw [show (a : Int) + n = (t : Int) by omega]; exact Go.IntWalk.i64_in _ (by omega)
  have z1 : (a : Int) + n = (t : Int) := by omega
  go_enter Tryz.func71, Tryz.ntmps71
  by_cases h1 : t < s.size
  · have b1 : decide ((t : Int) < s.size) = true := decide_eq_true (by omega)
    obtain ⟨d, hd⟩ : ∃ d, s.data.toList.getD t 0 = d := ⟨_, rfl⟩
    have hix2 := ix_byte s t h1 hd
    have hdl := byte_lt d
    rw [hd] at hcol
    clear hd
    by_cases h58 : d = 58
    · rw [if_pos ⟨h1, h58⟩] at hcol
      rw [hcol] at hT
      have q2 : (((d.toNat : Nat) : Int) == 58) = true := by simp [h58]
      clear hcol h58
      obtain ⟨u, hu⟩ : ∃ u, t + 1 = u := ⟨_, rfl⟩
      have z2 : IntKind.i64.wrap ((t : Int) + 1) = (u : Int) := by rw [show (t : Int) + 1 = (u : Int) by omega]; exact Go.IntWalk.i64_in _ (by omega)
      have z3 : (t : Int) + 1 = (u : Int) := by omega
      rw [show ((n : Int) + 1).toNat = n + 1 by omega] at hT
      by_cases h24 : n ≤ 24
      · have b24 : decide ((24 : Int) < n) = false := decide_eq_false (by omega)
        have n0 : ((n : Int) == 0) = false := by simpa using fun h => by omega
        rw [if_pos ⟨by omega, .inr rfl⟩] at hT
        cases hlg : Lx.large c
        · rw [hlg, if_neg (by decide)] at hT
          have HT := Lib.hid hT; clear hT
          have HLG := Lib.hid hlg; clear hlg
          go_wp2_with fail
          refine (HW.out _ hs (Nat.le_of_lt ha)).mono ?_
          rintro e w' ⟨rfl, rfl⟩
          go_wp2_with fail
          refine (rDigit_c c _).mono ?_
          rintro e w' ⟨rfl, rfl⟩
          rw [HDIG.out]
          go_wp2_with fail
          refine (rCapital_c c _).mono ?_
          rintro e w' ⟨rfl, rfl⟩
          rw [HLG.out]
          go_wp2_with fail
          refine bodyPost_ret (v := .tuple #[.agg #[.int .i64 2, .string (s.extract a u), .int .i64 0, .int .i64 0], .int .i64 ((u : Nat) - (a : Int)), .int .i64 0]) (by simp [results, Tryz.results71, go_sem]) rfl ?_
          rw [HP0.out]
          refine ⟨?_, ((Kp.refl [] w).alloc _).alloc _⟩
          rw [HT.out, ext_take, show u - a = (n + 1) by omega, show ((u : Nat) : Int) - (a : Int) = (((n + 1) : Nat) : Int) by omega]
          rfl
        · rw [hlg, if_pos rfl] at hT
          have HT := Lib.hid hT; clear hT
          have HLG := Lib.hid hlg; clear hlg
          go_wp2_with fail
          refine (HW.out _ hs (Nat.le_of_lt ha)).mono ?_
          rintro e w' ⟨rfl, rfl⟩
          go_wp2_with fail
          refine (rDigit_c c _).mono ?_
          rintro e w' ⟨rfl, rfl⟩
          rw [HDIG.out]
          go_wp2_with fail
          refine (rCapital_c c _).mono ?_
          rintro e w' ⟨rfl, rfl⟩
          rw [HLG.out]
          go_wp2_with fail
          refine bodyPost_ret (v := .tuple #[.agg #[.int .i64 3, .string (s.extract a u), .int .i64 0, .int .i64 0], .int .i64 ((u : Nat) - (a : Int)), .int .i64 0]) (by simp [results, Tryz.results71, go_sem]) rfl ?_
          rw [HP0.out]
          refine ⟨?_, ((Kp.refl [] w).alloc _).alloc _⟩
          rw [HT.out, ext_take, show u - a = (n + 1) by omega, show ((u : Nat) : Int) - (a : Int) = (((n + 1) : Nat) : Int) by omega]
          rfl
      · have b24 : decide ((24 : Int) < n) = true := decide_eq_true (by omega)
        have n0 : ((n : Int) == 0) = false := by simpa using fun h => by omega
        rw [if_neg (by omega)] at hT
        have HT := Lib.hid hT; clear hT
        go_wp2_with fail
        refine (HW.out _ hs (Nat.le_of_lt ha)).mono ?_
        rintro e w' ⟨rfl, rfl⟩
        go_wp2_with fail
        refine bodyPost_ret (v := .tuple #[.agg #[.int .i64 0, .string (s.extract a u), .int .i64 0, .int .i64 0], .int .i64 ((u : Nat) - (a : Int)), .int .i64 12]) (by simp [results, Tryz.results71, go_sem]) rfl ?_
        rw [HP0.out]
        refine ⟨?_, ((Kp.refl [] w).alloc _).alloc _⟩
        rw [HT.out]
        exact ⟨⟨0, (s.extract a u).data.toList, 0, 0⟩, ((u : Nat) - (a : Int)), by unfold encTk; simp only [bytes_back]⟩
    · rw [if_neg (fun h => h58 h.2)] at hcol
      rw [hcol] at hT
      have q2 : (((d.toNat : Nat) : Int) == 58) = false := by
        have : d.toNat ≠ 58 := fun e => h58 ((byte_is e).trans rfl)
        simpa using fun h => this (by omega)
      simp only [Int.add_zero, Int.toNat_natCast] at hT
      clear hcol h58
      by_cases h24 : n ≤ 24
      · have b24 : decide ((24 : Int) < n) = false := decide_eq_false (by omega)
        have n0 : ((n : Int) == 0) = false := by simpa using fun h => by omega
        cases hlg : Lx.large c
        · rw [hlg] at hT
          rw [if_pos ⟨by omega, .inl rfl⟩, if_neg (by decide)] at hT
          have HT := Lib.hid hT; clear hT
          have HLG := Lib.hid hlg; clear hlg
          go_wp2_with fail
          refine (HW.out _ hs (Nat.le_of_lt ha)).mono ?_
          rintro e w' ⟨rfl, rfl⟩
          go_wp2_with fail
          refine (rDigit_c c _).mono ?_
          rintro e w' ⟨rfl, rfl⟩
          rw [HDIG.out]
          go_wp2_with fail
          refine (rCapital_c c _).mono ?_
          rintro e w' ⟨rfl, rfl⟩
          rw [HLG.out]
          go_wp2_with fail
          refine bodyPost_ret (v := .tuple #[.agg #[.int .i64 1, .string (s.extract a t), .int .i64 0, .int .i64 0], .int .i64 ((t : Nat) - (a : Int)), .int .i64 0]) (by simp [results, Tryz.results71, go_sem]) rfl ?_
          rw [HP0.out]
          refine ⟨?_, ((Kp.refl [] w).alloc _).alloc _⟩
          rw [HT.out, ext_take, show t - a = n by omega, show ((t : Nat) : Int) - (a : Int) = ((n : Nat) : Int) by omega]
          rfl
        · rw [hlg] at hT
          rw [if_neg (by intro h; rcases h.2 with h | h <;> simp at h)] at hT
          have HT := Lib.hid hT; clear hT
          have HLG := Lib.hid hlg; clear hlg
          go_wp2_with fail
          refine (HW.out _ hs (Nat.le_of_lt ha)).mono ?_
          rintro e w' ⟨rfl, rfl⟩
          go_wp2_with fail
          refine (rDigit_c c _).mono ?_
          rintro e w' ⟨rfl, rfl⟩
          rw [HDIG.out]
          go_wp2_with fail
          refine (rCapital_c c _).mono ?_
          rintro e w' ⟨rfl, rfl⟩
          rw [HLG.out]
          go_wp2_with fail
          refine bodyPost_ret (v := .tuple #[.agg #[.int .i64 3, .string (s.extract a t), .int .i64 0, .int .i64 0], .int .i64 ((t : Nat) - (a : Int)), .int .i64 12]) (by simp [results, Tryz.results71, go_sem]) rfl ?_
          rw [HP0.out]
          refine ⟨?_, ((Kp.refl [] w).alloc _).alloc _⟩
          rw [HT.out]
          exact ⟨⟨3, (s.extract a t).data.toList, 0, 0⟩, ((t : Nat) - (a : Int)), by unfold encTk; simp only [bytes_back]⟩
      · have b24 : decide ((24 : Int) < n) = true := decide_eq_true (by omega)
        have n0 : ((n : Int) == 0) = false := by simpa using fun h => by omega
        rw [if_neg (by omega)] at hT
        have HT := Lib.hid hT; clear hT
        go_wp2_with fail
        refine (HW.out _ hs (Nat.le_of_lt ha)).mono ?_
        rintro e w' ⟨rfl, rfl⟩
        go_wp2_with fail
        refine bodyPost_ret (v := .tuple #[.agg #[.int .i64 0, .string (s.extract a t), .int .i64 0, .int .i64 0], .int .i64 ((t : Nat) - (a : Int)), .int .i64 12]) (by simp [results, Tryz.results71, go_sem]) rfl ?_
        rw [HP0.out]
        refine ⟨?_, ((Kp.refl [] w).alloc _).alloc _⟩
        rw [HT.out]
        exact ⟨⟨0, (s.extract a t).data.toList, 0, 0⟩, ((t : Nat) - (a : Int)), by unfold encTk; simp only [bytes_back]⟩
  · have b1 : decide ((t : Int) < s.size) = false := decide_eq_false (by omega)
    rw [if_neg (fun h => h1 h.1)] at hcol
    rw [hcol] at hT
    simp only [Int.add_zero, Int.toNat_natCast] at hT
    clear hcol
    by_cases h24 : n ≤ 24
    · have b24 : decide ((24 : Int) < n) = false := decide_eq_false (by omega)
      have n0 : ((n : Int) == 0) = false := by simpa using fun h => by omega
      cases hlg : Lx.large c
      · rw [hlg] at hT
        rw [if_pos ⟨by omega, .inl rfl⟩, if_neg (by decide)] at hT
        have HT := Lib.hid hT; clear hT
        have HLG := Lib.hid hlg; clear hlg
        go_wp2_with fail
        refine (HW.out _ hs (Nat.le_of_lt ha)).mono ?_
        rintro e w' ⟨rfl, rfl⟩
        go_wp2_with fail
        refine (rDigit_c c _).mono ?_
        rintro e w' ⟨rfl, rfl⟩
        rw [HDIG.out]
        go_wp2_with fail
        refine (rCapital_c c _).mono ?_
        rintro e w' ⟨rfl, rfl⟩
        rw [HLG.out]
        go_wp2_with fail
        refine bodyPost_ret (v := .tuple #[.agg #[.int .i64 1, .string (s.extract a t), .int .i64 0, .int .i64 0], .int .i64 ((t : Nat) - (a : Int)), .int .i64 0]) (by simp [results, Tryz.results71, go_sem]) rfl ?_
        rw [HP0.out]
        refine ⟨?_, ((Kp.refl [] w).alloc _).alloc _⟩
        rw [HT.out, ext_take, show t - a = n by omega, show ((t : Nat) : Int) - (a : Int) = ((n : Nat) : Int) by omega]
        rfl
      · rw [hlg] at hT
        rw [if_neg (by intro h; rcases h.2 with h | h <;> simp at h)] at hT
        have HT := Lib.hid hT; clear hT
        have HLG := Lib.hid hlg; clear hlg
        go_wp2_with fail
        refine (HW.out _ hs (Nat.le_of_lt ha)).mono ?_
        rintro e w' ⟨rfl, rfl⟩
        go_wp2_with fail
        refine (rDigit_c c _).mono ?_
        rintro e w' ⟨rfl, rfl⟩
        rw [HDIG.out]
        go_wp2_with fail
        refine (rCapital_c c _).mono ?_
        rintro e w' ⟨rfl, rfl⟩
        rw [HLG.out]
        go_wp2_with fail
        refine bodyPost_ret (v := .tuple #[.agg #[.int .i64 3, .string (s.extract a t), .int .i64 0, .int .i64 0], .int .i64 ((t : Nat) - (a : Int)), .int .i64 12]) (by simp [results, Tryz.results71, go_sem]) rfl ?_
        rw [HP0.out]
        refine ⟨?_, ((Kp.refl [] w).alloc _).alloc _⟩
        rw [HT.out]
        exact ⟨⟨3, (s.extract a t).data.toList, 0, 0⟩, ((t : Nat) - (a : Int)), by unfold encTk; simp only [bytes_back]⟩
    · have b24 : decide ((24 : Int) < n) = true := decide_eq_true (by omega)
      have n0 : ((n : Int) == 0) = false := by simpa using fun h => by omega
      rw [if_neg (by omega)] at hT
      have HT := Lib.hid hT; clear hT
      go_wp2_with fail
      refine (HW.out _ hs (Nat.le_of_lt ha)).mono ?_
      rintro e w' ⟨rfl, rfl⟩
      go_wp2_with fail
      refine bodyPost_ret (v := .tuple #[.agg #[.int .i64 0, .string (s.extract a t), .int .i64 0, .int .i64 0], .int .i64 ((t : Nat) - (a : Int)), .int .i64 12]) (by simp [results, Tryz.results71, go_sem]) rfl ?_
      rw [HP0.out]
      refine ⟨?_, ((Kp.refl [] w).alloc _).alloc _⟩
      rw [HT.out]
      exact ⟨⟨0, (s.extract a t).data.toList, 0, 0⟩, ((t : Nat) - (a : Int)), by unfold encTk; simp only [bytes_back]⟩


set_option maxRecDepth 100000 in
set_option maxHeartbeats 2000000 in
theorem rWordlyP_c (s : ByteArray) (a : Nat) (w : World) (hs : s.size ≤ 1100000) (ha : a < s.size) (hc : s.data.toList.getD a 0 = 95) :
    Calls Tryz.prog 71 #[.string s, .int .i64 a] w fun e w' => RTok (Lx.primT (s.data.toList.drop a)) e ∧ Kp [] w w' := by
  obtain ⟨P0, hP0⟩ : ∃ P0 : Ending → World → Prop, P0 = fun e w' => RTok (Lx.primT (s.data.toList.drop a)) e ∧ Kp [] w w' := ⟨_, rfl⟩
  rw [← hP0]
  have HP0 := Lib.hid hP0; clear hP0
  have hl := size_list s
  have hw := rWord_c s (a + 1)
  rw [show ((a + 1 : Nat) : Int) = (a : Int) + 1 by omega] at hw
  have hrn := Lx.run_le Lx.wordy (s.data.toList.drop (a + 1))
  rw [List.length_drop, hl] at hrn
  have hT : Lx.primT (s.data.toList.drop a) = (let n : Int := Lx.run Lx.wordy ((s.data.toList.drop a).drop 1)
    if 1 ≤ n ∧ n ≤ 24 ∧ Lx.large (Lx.nx (s.data.toList.drop a) 1) = true then .good 4 ((s.data.toList.drop a).take (1 + n + Lx.colon (s.data.toList.drop a) (1 + n)).toNat) (1 + n + Lx.colon (s.data.toList.drop a) (1 + n)).toNat else .bad 12) := rfl
  rw [List.drop_drop] at hT
  obtain ⟨n, hn⟩ : ∃ n, n = Lx.run Lx.wordy (s.data.toList.drop (a + 1)) := ⟨_, rfl⟩
  rw [← hn] at hw hrn hT
  have hn1 := Lx.nx_drop s.data.toList a 1
  rw [show ((1 : Nat) : Int) = 1 from rfl] at hn1
  rw [hn1] at hT
  simp only at hT
  rw [show (1 : Int) + (n : Int) = ((1 + n : Nat) : Int) by omega] at hT
  have hcol := Lx.colon_at s a (1 + n)
  have hix := ix_byte s a ha hc
  have q1 : (((95 : UInt8).toNat : Int) == 95) = true := rfl
  clear hn hc hn1
  have HW := Lib.hid hw; clear hw
  obtain ⟨t, ht⟩ : ∃ t, a + (1 + n) = t := ⟨_, rfl⟩
  rw [ht] at hcol
  have z0 : IntKind.i64.wrap ((a : Int) + 1 + n) = (t : Int) := by rw [show (a : Int) + 1 + n = (t : Int) by omega]; exact Go.IntWalk.i64_in _ (by omega)
  have z1 : (a : Int) + 1 + n = (t : Int) := by omega
  go_enter Tryz.func71, Tryz.ntmps71
  by_cases h1 : t < s.size
  · have b1 : decide ((t : Int) < s.size) = true := decide_eq_true (by omega)
    obtain ⟨d, hd⟩ : ∃ d, s.data.toList.getD t 0 = d := ⟨_, rfl⟩
    have hix2 := ix_byte s t h1 hd
    have hdl := byte_lt d
    rw [hd] at hcol
    clear hd
    by_cases h58 : d = 58
    · rw [if_pos ⟨h1, h58⟩] at hcol
      rw [hcol] at hT
      have q2 : (((d.toNat : Nat) : Int) == 58) = true := by simp [h58]
      clear hcol h58
      obtain ⟨u, hu⟩ : ∃ u, t + 1 = u := ⟨_, rfl⟩
      have z2 : IntKind.i64.wrap ((t : Int) + 1) = (u : Int) := by rw [show (t : Int) + 1 = (u : Int) by omega]; exact Go.IntWalk.i64_in _ (by omega)
      have z3 : (t : Int) + 1 = (u : Int) := by omega
      rw [show (((1 + n : Nat) : Int) + 1).toNat = 1 + n + 1 by omega] at hT
      by_cases hn0 : n = 0
      · have n0 : ((n : Int) == 0) = true := by simp [hn0]
        rw [if_neg (by omega)] at hT
        have HT := Lib.hid hT; clear hT
        have HN0 := Lib.hid hn0; clear hn0
        go_wp2_with fail
        refine (HW.out _ hs (by omega)).mono ?_
        rintro e w' ⟨rfl, rfl⟩
        go_wp2_with fail
        refine bodyPost_ret (v := .tuple #[.agg #[.int .i64 0, .string (s.extract a u), .int .i64 0, .int .i64 0], .int .i64 ((u : Nat) - (a : Int)), .int .i64 12]) (by simp [results, Tryz.results71, go_sem]) rfl ?_
        rw [HP0.out]
        refine ⟨?_, ((Kp.refl [] w).alloc _).alloc _⟩
        rw [HT.out]
        exact ⟨⟨0, (s.extract a u).data.toList, 0, 0⟩, ((u : Nat) - (a : Int)), by unfold encTk; simp only [bytes_back]⟩
      · have n0 : ((n : Int) == 0) = false := by simpa using hn0
        by_cases h24 : n ≤ 24
        · have b24 : decide ((24 : Int) < n) = false := decide_eq_false (by omega)
          obtain ⟨x, hx⟩ : ∃ x, s.data.toList.getD (a + 1) 0 = x := ⟨_, rfl⟩
          have hix3 := ix_byte s (a + 1) (by omega) hx
          have hxl := byte_lt x
          rw [hx] at hT
          clear hx
          rw [show ((a + 1 : Nat) : Int) = (a : Int) + 1 by omega] at hix3
          cases hdx : Lx.digit x
          · have HDX := Lib.hid hdx; clear hdx
            cases hlg : Lx.large x
            · rw [hlg, if_neg (by simp)] at hT
              have HT := Lib.hid hT; clear hT
              have HLG := Lib.hid hlg; clear hlg
              go_wp2_with fail
              refine (HW.out _ hs (by omega)).mono ?_
              rintro e w' ⟨rfl, rfl⟩
              go_wp2_with fail
              refine (rDigit_c x _).mono ?_
              rintro e w' ⟨rfl, rfl⟩
              rw [HDX.out]
              go_wp2_with fail
              refine (rCapital_c x _).mono ?_
              rintro e w' ⟨rfl, rfl⟩
              rw [HLG.out]
              go_wp2_with fail
              refine bodyPost_ret (v := .tuple #[.agg #[.int .i64 4, .string (s.extract a u), .int .i64 0, .int .i64 0], .int .i64 ((u : Nat) - (a : Int)), .int .i64 12]) (by simp [results, Tryz.results71, go_sem]) rfl ?_
              rw [HP0.out]
              refine ⟨?_, ((Kp.refl [] w).alloc _).alloc _⟩
              rw [HT.out]
              exact ⟨⟨4, (s.extract a u).data.toList, 0, 0⟩, ((u : Nat) - (a : Int)), by unfold encTk; simp only [bytes_back]⟩
            · rw [hlg, if_pos ⟨by omega, by omega, rfl⟩] at hT
              have HT := Lib.hid hT; clear hT
              have HLG := Lib.hid hlg; clear hlg
              go_wp2_with fail
              refine (HW.out _ hs (by omega)).mono ?_
              rintro e w' ⟨rfl, rfl⟩
              go_wp2_with fail
              refine (rDigit_c x _).mono ?_
              rintro e w' ⟨rfl, rfl⟩
              rw [HDX.out]
              go_wp2_with fail
              refine (rCapital_c x _).mono ?_
              rintro e w' ⟨rfl, rfl⟩
              rw [HLG.out]
              go_wp2_with fail
              refine bodyPost_ret (v := .tuple #[.agg #[.int .i64 4, .string (s.extract a u), .int .i64 0, .int .i64 0], .int .i64 ((u : Nat) - (a : Int)), .int .i64 0]) (by simp [results, Tryz.results71, go_sem]) rfl ?_
              rw [HP0.out]
              refine ⟨?_, ((Kp.refl [] w).alloc _).alloc _⟩
              rw [HT.out, ext_take, show u - a = (1 + n + 1) by omega, show ((u : Nat) : Int) - (a : Int) = (((1 + n + 1) : Nat) : Int) by omega]
              rfl
          · rw [digit_large hdx, if_neg (by simp)] at hT
            have HT := Lib.hid hT; clear hT
            have HDX := Lib.hid hdx; clear hdx
            go_wp2_with fail
            refine (HW.out _ hs (by omega)).mono ?_
            rintro e w' ⟨rfl, rfl⟩
            go_wp2_with fail
            refine (rDigit_c x _).mono ?_
            rintro e w' ⟨rfl, rfl⟩
            rw [HDX.out]
            go_wp2_with fail
            refine bodyPost_ret (v := .tuple #[.agg #[.int .i64 0, .string (s.extract a u), .int .i64 0, .int .i64 0], .int .i64 ((u : Nat) - (a : Int)), .int .i64 12]) (by simp [results, Tryz.results71, go_sem]) rfl ?_
            rw [HP0.out]
            refine ⟨?_, ((Kp.refl [] w).alloc _).alloc _⟩
            rw [HT.out]
            exact ⟨⟨0, (s.extract a u).data.toList, 0, 0⟩, ((u : Nat) - (a : Int)), by unfold encTk; simp only [bytes_back]⟩
        · have b24 : decide ((24 : Int) < n) = true := decide_eq_true (by omega)
          rw [if_neg (by omega)] at hT
          have HT := Lib.hid hT; clear hT
          go_wp2_with fail
          refine (HW.out _ hs (by omega)).mono ?_
          rintro e w' ⟨rfl, rfl⟩
          go_wp2_with fail
          refine bodyPost_ret (v := .tuple #[.agg #[.int .i64 0, .string (s.extract a u), .int .i64 0, .int .i64 0], .int .i64 ((u : Nat) - (a : Int)), .int .i64 12]) (by simp [results, Tryz.results71, go_sem]) rfl ?_
          rw [HP0.out]
          refine ⟨?_, ((Kp.refl [] w).alloc _).alloc _⟩
          rw [HT.out]
          exact ⟨⟨0, (s.extract a u).data.toList, 0, 0⟩, ((u : Nat) - (a : Int)), by unfold encTk; simp only [bytes_back]⟩
    · rw [if_neg (fun h => h58 h.2)] at hcol
      rw [hcol] at hT
      have q2 : (((d.toNat : Nat) : Int) == 58) = false := by
        have : d.toNat ≠ 58 := fun e => h58 ((byte_is e).trans rfl)
        simpa using fun h => this (by omega)
      simp only [Int.add_zero, Int.toNat_natCast] at hT
      clear hcol h58
      by_cases hn0 : n = 0
      · have n0 : ((n : Int) == 0) = true := by simp [hn0]
        rw [if_neg (by omega)] at hT
        have HT := Lib.hid hT; clear hT
        have HN0 := Lib.hid hn0; clear hn0
        go_wp2_with fail
        refine (HW.out _ hs (by omega)).mono ?_
        rintro e w' ⟨rfl, rfl⟩
        go_wp2_with fail
        refine bodyPost_ret (v := .tuple #[.agg #[.int .i64 0, .string (s.extract a t), .int .i64 0, .int .i64 0], .int .i64 ((t : Nat) - (a : Int)), .int .i64 12]) (by simp [results, Tryz.results71, go_sem]) rfl ?_
        rw [HP0.out]
        refine ⟨?_, ((Kp.refl [] w).alloc _).alloc _⟩
        rw [HT.out]
        exact ⟨⟨0, (s.extract a t).data.toList, 0, 0⟩, ((t : Nat) - (a : Int)), by unfold encTk; simp only [bytes_back]⟩
      · have n0 : ((n : Int) == 0) = false := by simpa using hn0
        by_cases h24 : n ≤ 24
        · have b24 : decide ((24 : Int) < n) = false := decide_eq_false (by omega)
          obtain ⟨x, hx⟩ : ∃ x, s.data.toList.getD (a + 1) 0 = x := ⟨_, rfl⟩
          have hix3 := ix_byte s (a + 1) (by omega) hx
          have hxl := byte_lt x
          rw [hx] at hT
          clear hx
          rw [show ((a + 1 : Nat) : Int) = (a : Int) + 1 by omega] at hix3
          cases hdx : Lx.digit x
          · have HDX := Lib.hid hdx; clear hdx
            cases hlg : Lx.large x
            · rw [hlg, if_neg (by simp)] at hT
              have HT := Lib.hid hT; clear hT
              have HLG := Lib.hid hlg; clear hlg
              go_wp2_with fail
              refine (HW.out _ hs (by omega)).mono ?_
              rintro e w' ⟨rfl, rfl⟩
              go_wp2_with fail
              refine (rDigit_c x _).mono ?_
              rintro e w' ⟨rfl, rfl⟩
              rw [HDX.out]
              go_wp2_with fail
              refine (rCapital_c x _).mono ?_
              rintro e w' ⟨rfl, rfl⟩
              rw [HLG.out]
              go_wp2_with fail
              refine bodyPost_ret (v := .tuple #[.agg #[.int .i64 4, .string (s.extract a t), .int .i64 0, .int .i64 0], .int .i64 ((t : Nat) - (a : Int)), .int .i64 12]) (by simp [results, Tryz.results71, go_sem]) rfl ?_
              rw [HP0.out]
              refine ⟨?_, ((Kp.refl [] w).alloc _).alloc _⟩
              rw [HT.out]
              exact ⟨⟨4, (s.extract a t).data.toList, 0, 0⟩, ((t : Nat) - (a : Int)), by unfold encTk; simp only [bytes_back]⟩
            · rw [hlg, if_pos ⟨by omega, by omega, rfl⟩] at hT
              have HT := Lib.hid hT; clear hT
              have HLG := Lib.hid hlg; clear hlg
              go_wp2_with fail
              refine (HW.out _ hs (by omega)).mono ?_
              rintro e w' ⟨rfl, rfl⟩
              go_wp2_with fail
              refine (rDigit_c x _).mono ?_
              rintro e w' ⟨rfl, rfl⟩
              rw [HDX.out]
              go_wp2_with fail
              refine (rCapital_c x _).mono ?_
              rintro e w' ⟨rfl, rfl⟩
              rw [HLG.out]
              go_wp2_with fail
              refine bodyPost_ret (v := .tuple #[.agg #[.int .i64 4, .string (s.extract a t), .int .i64 0, .int .i64 0], .int .i64 ((t : Nat) - (a : Int)), .int .i64 0]) (by simp [results, Tryz.results71, go_sem]) rfl ?_
              rw [HP0.out]
              refine ⟨?_, ((Kp.refl [] w).alloc _).alloc _⟩
              rw [HT.out, ext_take, show t - a = (1 + n) by omega, show ((t : Nat) : Int) - (a : Int) = (((1 + n) : Nat) : Int) by omega]
              rfl
          · rw [digit_large hdx, if_neg (by simp)] at hT
            have HT := Lib.hid hT; clear hT
            have HDX := Lib.hid hdx; clear hdx
            go_wp2_with fail
            refine (HW.out _ hs (by omega)).mono ?_
            rintro e w' ⟨rfl, rfl⟩
            go_wp2_with fail
            refine (rDigit_c x _).mono ?_
            rintro e w' ⟨rfl, rfl⟩
            rw [HDX.out]
            go_wp2_with fail
            refine bodyPost_ret (v := .tuple #[.agg #[.int .i64 0, .string (s.extract a t), .int .i64 0, .int .i64 0], .int .i64 ((t : Nat) - (a : Int)), .int .i64 12]) (by simp [results, Tryz.results71, go_sem]) rfl ?_
            rw [HP0.out]
            refine ⟨?_, ((Kp.refl [] w).alloc _).alloc _⟩
            rw [HT.out]
            exact ⟨⟨0, (s.extract a t).data.toList, 0, 0⟩, ((t : Nat) - (a : Int)), by unfold encTk; simp only [bytes_back]⟩
        · have b24 : decide ((24 : Int) < n) = true := decide_eq_true (by omega)
          rw [if_neg (by omega)] at hT
          have HT := Lib.hid hT; clear hT
          go_wp2_with fail
          refine (HW.out _ hs (by omega)).mono ?_
          rintro e w' ⟨rfl, rfl⟩
          go_wp2_with fail
          refine bodyPost_ret (v := .tuple #[.agg #[.int .i64 0, .string (s.extract a t), .int .i64 0, .int .i64 0], .int .i64 ((t : Nat) - (a : Int)), .int .i64 12]) (by simp [results, Tryz.results71, go_sem]) rfl ?_
          rw [HP0.out]
          refine ⟨?_, ((Kp.refl [] w).alloc _).alloc _⟩
          rw [HT.out]
          exact ⟨⟨0, (s.extract a t).data.toList, 0, 0⟩, ((t : Nat) - (a : Int)), by unfold encTk; simp only [bytes_back]⟩
  · have b1 : decide ((t : Int) < s.size) = false := decide_eq_false (by omega)
    rw [if_neg (fun h => h1 h.1)] at hcol
    rw [hcol] at hT
    simp only [Int.add_zero, Int.toNat_natCast] at hT
    clear hcol
    by_cases hn0 : n = 0
    · have n0 : ((n : Int) == 0) = true := by simp [hn0]
      rw [if_neg (by omega)] at hT
      have HT := Lib.hid hT; clear hT
      have HN0 := Lib.hid hn0; clear hn0
      go_wp2_with fail
      refine (HW.out _ hs (by omega)).mono ?_
      rintro e w' ⟨rfl, rfl⟩
      go_wp2_with fail
      refine bodyPost_ret (v := .tuple #[.agg #[.int .i64 0, .string (s.extract a t), .int .i64 0, .int .i64 0], .int .i64 ((t : Nat) - (a : Int)), .int .i64 12]) (by simp [results, Tryz.results71, go_sem]) rfl ?_
      rw [HP0.out]
      refine ⟨?_, ((Kp.refl [] w).alloc _).alloc _⟩
      rw [HT.out]
      exact ⟨⟨0, (s.extract a t).data.toList, 0, 0⟩, ((t : Nat) - (a : Int)), by unfold encTk; simp only [bytes_back]⟩
    · have n0 : ((n : Int) == 0) = false := by simpa using hn0
      by_cases h24 : n ≤ 24
      · have b24 : decide ((24 : Int) < n) = false := decide_eq_false (by omega)
        obtain ⟨x, hx⟩ : ∃ x, s.data.toList.getD (a + 1) 0 = x := ⟨_, rfl⟩
        have hix3 := ix_byte s (a + 1) (by omega) hx
        have hxl := byte_lt x
        rw [hx] at hT
        clear hx
        rw [show ((a + 1 : Nat) : Int) = (a : Int) + 1 by omega] at hix3
        cases hdx : Lx.digit x
        · have HDX := Lib.hid hdx; clear hdx
          cases hlg : Lx.large x
          · rw [hlg, if_neg (by simp)] at hT
            have HT := Lib.hid hT; clear hT
            have HLG := Lib.hid hlg; clear hlg
            go_wp2_with fail
            refine (HW.out _ hs (by omega)).mono ?_
            rintro e w' ⟨rfl, rfl⟩
            go_wp2_with fail
            refine (rDigit_c x _).mono ?_
            rintro e w' ⟨rfl, rfl⟩
            rw [HDX.out]
            go_wp2_with fail
            refine (rCapital_c x _).mono ?_
            rintro e w' ⟨rfl, rfl⟩
            rw [HLG.out]
            go_wp2_with fail
            refine bodyPost_ret (v := .tuple #[.agg #[.int .i64 4, .string (s.extract a t), .int .i64 0, .int .i64 0], .int .i64 ((t : Nat) - (a : Int)), .int .i64 12]) (by simp [results, Tryz.results71, go_sem]) rfl ?_
            rw [HP0.out]
            refine ⟨?_, ((Kp.refl [] w).alloc _).alloc _⟩
            rw [HT.out]
            exact ⟨⟨4, (s.extract a t).data.toList, 0, 0⟩, ((t : Nat) - (a : Int)), by unfold encTk; simp only [bytes_back]⟩
          · rw [hlg, if_pos ⟨by omega, by omega, rfl⟩] at hT
            have HT := Lib.hid hT; clear hT
            have HLG := Lib.hid hlg; clear hlg
            go_wp2_with fail
            refine (HW.out _ hs (by omega)).mono ?_
            rintro e w' ⟨rfl, rfl⟩
            go_wp2_with fail
            refine (rDigit_c x _).mono ?_
            rintro e w' ⟨rfl, rfl⟩
            rw [HDX.out]
            go_wp2_with fail
            refine (rCapital_c x _).mono ?_
            rintro e w' ⟨rfl, rfl⟩
            rw [HLG.out]
            go_wp2_with fail
            refine bodyPost_ret (v := .tuple #[.agg #[.int .i64 4, .string (s.extract a t), .int .i64 0, .int .i64 0], .int .i64 ((t : Nat) - (a : Int)), .int .i64 0]) (by simp [results, Tryz.results71, go_sem]) rfl ?_
            rw [HP0.out]
            refine ⟨?_, ((Kp.refl [] w).alloc _).alloc _⟩
            rw [HT.out, ext_take, show t - a = (1 + n) by omega, show ((t : Nat) : Int) - (a : Int) = (((1 + n) : Nat) : Int) by omega]
            rfl
        · rw [digit_large hdx, if_neg (by simp)] at hT
          have HT := Lib.hid hT; clear hT
          have HDX := Lib.hid hdx; clear hdx
          go_wp2_with fail
          refine (HW.out _ hs (by omega)).mono ?_
          rintro e w' ⟨rfl, rfl⟩
          go_wp2_with fail
          refine (rDigit_c x _).mono ?_
          rintro e w' ⟨rfl, rfl⟩
          rw [HDX.out]
          go_wp2_with fail
          refine bodyPost_ret (v := .tuple #[.agg #[.int .i64 0, .string (s.extract a t), .int .i64 0, .int .i64 0], .int .i64 ((t : Nat) - (a : Int)), .int .i64 12]) (by simp [results, Tryz.results71, go_sem]) rfl ?_
          rw [HP0.out]
          refine ⟨?_, ((Kp.refl [] w).alloc _).alloc _⟩
          rw [HT.out]
          exact ⟨⟨0, (s.extract a t).data.toList, 0, 0⟩, ((t : Nat) - (a : Int)), by unfold encTk; simp only [bytes_back]⟩
      · have b24 : decide ((24 : Int) < n) = true := decide_eq_true (by omega)
        rw [if_neg (by omega)] at hT
        have HT := Lib.hid hT; clear hT
        go_wp2_with fail
        refine (HW.out _ hs (by omega)).mono ?_
        rintro e w' ⟨rfl, rfl⟩
        go_wp2_with fail
        refine bodyPost_ret (v := .tuple #[.agg #[.int .i64 0, .string (s.extract a t), .int .i64 0, .int .i64 0], .int .i64 ((t : Nat) - (a : Int)), .int .i64 12]) (by simp [results, Tryz.results71, go_sem]) rfl ?_
        rw [HP0.out]
        refine ⟨?_, ((Kp.refl [] w).alloc _).alloc _⟩
        rw [HT.out]
        exact ⟨⟨0, (s.extract a t).data.toList, 0, 0⟩, ((t : Nat) - (a : Int)), by unfold encTk; simp only [bytes_back]⟩

end Go.Proofs.YtogmealngeejmaaGreatDoor
