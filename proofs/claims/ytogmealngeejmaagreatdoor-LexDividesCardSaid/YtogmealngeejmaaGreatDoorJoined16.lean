import Derived.Test.YtogmealngeejmaaGreatDoorJoined15
import Derived.Test.YtogmealngeejmaaGreatDoorJoined5
/- The reference: what is passed over, places. -/
namespace Go.Proofs.YtogmealngeejmaaGreatDoor
open Go Go.RowKit

theorem blank_in (c : UInt8) : (#[32, 9, 10] : Array UInt8).toList.contains c = Lx.blank c := by
  have h : ∀ n : UInt8, (c == n) = ((c.toNat : Int) == (n.toNat : Int)) := by
    intro n
    by_cases e : c = n
    · subst e; simp
    · have : c.toNat ≠ n.toNat := fun h => e (UInt8.toNat_inj.1 h)
      have h2 : ((c.toNat : Int) == (n.toNat : Int)) = false := by simpa using fun h => this (by omega)
      rw [h2]; simpa using e
  unfold Lx.blank
  simp only [List.contains_cons, List.contains_nil, h, Bool.or_false, Bool.or_assoc]
  rfl

/-- What 'passed' hands back. -/
def passedV (a : Nat) : Lx.Ps → Value
  | .at n => .tuple #[.int .i64 ((a + n : Nat) : Int), .bool true]
  | .open n => .tuple #[.int .i64 ((a + n : Nat) : Int), .bool false]

set_option maxRecDepth 100000 in
set_option maxHeartbeats 2000000 in
theorem rPassed_c (s : ByteArray) (a : Nat) (w : World) (hs : s.size ≤ 1100000) (ha : a ≤ s.size) :
    Calls Tryz.prog 75 #[.string s, .int .i64 a] w fun e w' => e = .returned (passedV a (Lx.pas 0 none (s.data.toList.drop a))) ∧ w = w' := by
  obtain ⟨R, hR⟩ : ∃ R, R = Lx.pas 0 none (s.data.toList.drop a) := ⟨_, rfl⟩
  rw [← hR]
  have HRR := Lib.hid hR; clear hR
  obtain ⟨P0, hP0⟩ : ∃ P0 : Ending → World → Prop, P0 = fun e w' => e = .returned (passedV a R) ∧ w = w' := ⟨_, rfl⟩
  rw [← hP0]
  have HP0 := Lib.hid hP0; clear hP0
  have hl := size_list s
  go_enter Tryz.func75, Tryz.ntmps75
  go_wp2_with fail
  go_loopg [1, 6] (s.size - a) (fun n x y wr => ∃ k : Nat, n = s.size - (a + k) ∧ x = .int .i64 ((a + k : Nat) : Int) ∧ a + k ≤ s.size ∧ Hid (R = Lx.pas k none (s.data.toList.drop (a + k))) ∧ wr = w)
  case atStart => exact ⟨0, rfl, by simp, by omega, HRR, rfl⟩
  case round =>
    obtain ⟨k, rfl, rfl, hk, HC, rfl⟩ := hrel
    obtain ⟨j, hj⟩ : ∃ j, a + k = j := ⟨_, rfl⟩
    rw [hj] at HC hk ⊢
    by_cases hkl : j < s.size
    · have b1 : decide ((j : Int) < s.size) = true := decide_eq_true (by omega)
      have b2 : decide (j < s.size) = true := decide_eq_true (by omega)
      obtain ⟨c, hc⟩ : ∃ c, s.data.toList.getD j 0 = c := ⟨_, rfl⟩
      have hix := ix_byte s j hkl hc
      have hd := drop_getD (l := s.data.toList) (j := j) (by rw [hl]; exact hkl)
      rw [hc] at hd
      have HD := Lib.hid hd; clear hd hc
      have hin := rIn_c c ⟨#[32, 9, 10]⟩ wr (by decide)
      rw [show (⟨#[32, 9, 10]⟩ : ByteArray).data.toList.contains c = Lx.blank c from blank_in c] at hin
      cases hb : Lx.blank c
      · rw [hb] at hin
        have HIN := Lib.hid hin; clear hin
        have HB := Lib.hid hb; clear hb
        by_cases hq : c = 34
        · have q1 : (((c.toNat : Nat) : Int) != 34) = false := by simp [hq]
          have HQ : Hid (R = Lx.pas (k + 1) (some k) (s.data.toList.drop (a + (k + 1)))) := Lib.hid (by
            rw [HC.out, HD.out, Lx.pas, if_neg (by rw [HB.out]; decide), if_pos hq, show a + (k + 1) = j + 1 by omega])
          clear hq
          have HJ := Lib.hid hj; clear hj
          have HIX := Lib.hid (show a + (k + 1) ≤ s.size by have := HJ.out; omega)
          have z1 : IntKind.i64.wrap ((j : Int) + 1) = ((j + 1 : Nat) : Int) := by rw [show (j : Int) + 1 = ((j + 1 : Nat) : Int) by omega]; exact Go.IntWalk.i64_in _ (by omega)
          go_wp2_with fail
          refine HIN.out.mono ?_
          rintro e w' ⟨rfl, rfl⟩
          go_wp2_with fail
          obtain ⟨wo, rfl⟩ : ∃ wo : World, wo = wr := ⟨_, rfl⟩
          go_loopg [6] (s.size - (a + (k + 1))) (fun n y wr => ∃ i : Nat, n = s.size - (a + i) ∧ y = .int .i64 ((a + i : Nat) : Int) ∧ a + i ≤ s.size ∧ k + 1 ≤ i ∧ Hid (R = Lx.pas i (some k) (s.data.toList.drop (a + i))) ∧ wr = wo)
          case atStart => exact ⟨k + 1, rfl, by have := HJ.out; rw [show a + (k + 1) = j + 1 by omega]; simp, HIX.out, Nat.le_refl _, HQ, rfl⟩
          case round =>
            obtain ⟨i, rfl, rfl, hi, hki, HI, rfl⟩ := hrel
            obtain ⟨t, ht⟩ : ∃ t, a + i = t := ⟨_, rfl⟩
            rw [ht] at HI hi ⊢
            by_cases htl : t < s.size
            · have b3 : decide ((t : Int) < s.size) = true := decide_eq_true (by omega)
              obtain ⟨d, hdd⟩ : ∃ d, s.data.toList.getD t 0 = d := ⟨_, rfl⟩
              have hix2 := ix_byte s t htl hdd
              have hd2 := drop_getD (l := s.data.toList) (j := t) (by rw [hl]; exact htl)
              rw [hdd] at hd2
              have HD2 := Lib.hid hd2; clear hd2 hdd
              by_cases hq : d = 34
              · have q2 : (((d.toNat : Nat) : Int) != 34) = false := by simp [hq]
                have HQ2 : Hid (R = Lx.pas (i + 1) none (s.data.toList.drop (a + (i + 1)))) := Lib.hid (by
                  rw [HI.out, HD2.out, Lx.pas, if_pos hq, show a + (i + 1) = t + 1 by omega])
                have e1 : ((t : Int) == s.size) = false := by simpa using fun h => by omega
                have HT := Lib.hid ht; clear ht hq
                have hfit : a + (i + 1) ≤ s.size := by have := HT.out; omega
                go_wp2_with fail
                go_roundg (s.size - (a + (i + 1)))
                case measure => have := HT.out; have := HJ.out; omega
                case rel => exact ⟨i + 1, rfl, by have := HT.out; rw [show a + (i + 1) = t + 1 by omega]; simp, hfit, HQ2, rfl⟩
              · have q2 : (((d.toNat : Nat) : Int) != 34) = true := by
                  have : d.toNat ≠ 34 := fun e => hq ((byte_is e).trans rfl)
                  simpa using fun h => this (by omega)
                have HQ2 : Hid (R = Lx.pas (i + 1) (some k) (s.data.toList.drop (a + (i + 1)))) := Lib.hid (by
                  rw [HI.out, HD2.out, Lx.pas, if_neg hq, show a + (i + 1) = t + 1 by omega])
                have HT := Lib.hid ht; clear ht hq
                have hfit : a + (i + 1) ≤ s.size := by have := HT.out; omega
                go_wp2_with fail
                go_roundg (s.size - (a + (i + 1)))
                case measure => have := HT.out; omega
                case rel => exact ⟨i + 1, rfl, by have := HT.out; rw [show a + (i + 1) = t + 1 by omega]; simp, hfit, by omega, HQ2, rfl⟩
            · have b3 : decide ((t : Int) < s.size) = false := decide_eq_false (by omega)
              have e1 : ((t : Int) == s.size) = true := by simpa using (by omega : (t : Int) = s.size)
              have HQ2 : Hid (R = .open k) := Lib.hid (by rw [HI.out, List.drop_eq_nil_of_le (by rw [hl]; omega)]; rfl)
              go_wp2_with fail
              rw [HP0.out]
              exact ⟨by rw [HQ2.out, ← HJ.out]; rfl, rfl⟩
        · have q1 : (((c.toNat : Nat) : Int) != 34) = true := by
            have : c.toNat ≠ 34 := fun e => hq ((byte_is e).trans rfl)
            simpa using fun h => this (by omega)
          have HQ : Hid (R = .at k) := Lib.hid (by rw [HC.out, HD.out, Lx.pas, if_neg (by rw [HB.out]; decide), if_neg hq])
          clear hq
          go_wp2_with fail
          refine HIN.out.mono ?_
          rintro e w' ⟨rfl, rfl⟩
          go_wp2_with fail
          rw [HP0.out]
          exact ⟨by rw [HQ.out, ← hj]; rfl, rfl⟩
      · rw [hb] at hin
        have HIN := Lib.hid hin; clear hin
        have HQ : Hid (R = Lx.pas (k + 1) none (s.data.toList.drop (a + (k + 1)))) := Lib.hid (by
          rw [HC.out, HD.out, Lx.pas, if_pos hb, show a + (k + 1) = j + 1 by omega])
        clear hb
        have HJ := Lib.hid hj; clear hj
        have HIX := Lib.hid (show a + (k + 1) ≤ s.size by have := HJ.out; omega)
        go_wp2_with fail
        refine HIN.out.mono ?_
        rintro e w' ⟨rfl, rfl⟩
        go_wp2_with fail
        go_roundg (s.size - (a + (k + 1)))
        case measure => have := HJ.out; omega
        case rel => exact ⟨k + 1, rfl, by have := HJ.out; rw [show a + (k + 1) = j + 1 by omega]; simp, HIX.out, HQ, rfl⟩
    · have b1 : decide ((j : Int) < s.size) = false := decide_eq_false (by omega)
      have HQ : Hid (R = .at k) := Lib.hid (by rw [HC.out, List.drop_eq_nil_of_le (by rw [hl]; omega)]; rfl)
      go_wp2_with fail
      rw [HP0.out]
      exact ⟨by rw [HQ.out, ← hj]; rfl, rfl⟩

set_option maxRecDepth 100000 in
set_option maxHeartbeats 1000000 in
theorem rPlaced_c (s : ByteArray) (a : Nat) (w : World) (hs : s.size ≤ 1100000) (ha : a ≤ s.size) :
    Calls Tryz.prog 55 #[.string s, .int .i64 a] w fun e w' => e = .returned (.tuple #[.int .i64 (Lx.adv (s.data.toList.take a) (1, 1)).1, .int .i64 (Lx.adv (s.data.toList.take a) (1, 1)).2]) ∧ w = w' := by
  obtain ⟨P0, hP0⟩ : ∃ P0 : Ending → World → Prop, P0 = fun e w' => e = .returned (.tuple #[.int .i64 (Lx.adv (s.data.toList.take a) (1, 1)).1, .int .i64 (Lx.adv (s.data.toList.take a) (1, 1)).2]) ∧ w = w' := ⟨_, rfl⟩
  rw [← hP0]
  have HP0 := Lib.hid hP0; clear hP0
  have hl := size_list s
  go_enter Tryz.func55, Tryz.ntmps55
  go_wp2_with fail
  go_loopg [6, 7, 8] a (fun n x y z wr => ∃ k : Nat, n = a - k ∧ z = .int .i64 k ∧ k ≤ a ∧ x = .int .i64 (Lx.adv (s.data.toList.take k) (1, 1)).1 ∧ y = .int .i64 (Lx.adv (s.data.toList.take k) (1, 1)).2 ∧ wr = w)
  case atStart => exact ⟨0, rfl, rfl, Nat.zero_le _, rfl, rfl, rfl⟩
  case round =>
    obtain ⟨k, rfl, rfl, hk, rfl, rfl, rfl⟩ := hrel
    have hbd := Lx.adv_bound (s.data.toList.take k) (1, 1)
    have hbl : (s.data.toList.take k).length ≤ 1100000 := by rw [List.length_take, hl]; omega
    simp only at hbd
    obtain ⟨⟨li, co⟩, hlc⟩ : ∃ q, Lx.adv (s.data.toList.take k) (1, 1) = q := ⟨_, rfl⟩
    rw [hlc] at hbd ⊢
    simp only at hbd ⊢
    have hb2 : 0 ≤ li ∧ li ≤ 1200000 ∧ 0 ≤ co ∧ co ≤ 1200000 := by omega
    clear hbd hbl
    by_cases hkl : k < a
    · have b1 : decide ((k : Int) < a) = true := decide_eq_true (by omega)
      obtain ⟨c, hc⟩ : ∃ c, s.data.toList.getD k 0 = c := ⟨_, rfl⟩
      have hix := ix_byte s k (by omega) hc
      have hsu := Lx.adv_succ s.data.toList k (by rw [hl]; omega) (1, 1)
      rw [hlc, hc] at hsu
      unfold Lx.adv1 at hsu
      have HLC := Lib.hid hlc; clear hlc hc
      by_cases hq : c = 10
      · have q1 : (((c.toNat : Nat) : Int) == 10) = true := by simp [hq]
        rw [if_pos hq] at hsu
        have HSU := Lib.hid hsu; clear hsu hq
        go_wp2_with fail
        go_roundg (a - (k + 1))
        case measure => omega
        case rel => exact ⟨k + 1, rfl, by simp, by omega, by rw [HSU.out], by rw [HSU.out], rfl⟩
      · have q1 : (((c.toNat : Nat) : Int) == 10) = false := by
          have : c.toNat ≠ 10 := fun e => hq ((byte_is e).trans rfl)
          simpa using fun h => this (by omega)
        rw [if_neg hq] at hsu
        have HSU := Lib.hid hsu; clear hsu hq
        go_wp2_with fail
        go_roundg (a - (k + 1))
        case measure => omega
        case rel => exact ⟨k + 1, rfl, by simp, by omega, by rw [HSU.out], by rw [HSU.out], rfl⟩
    · obtain rfl : k = a := by omega
      have b1 : decide ((k : Int) < k) = false := by simp
      have HLC := Lib.hid hlc; clear hlc
      go_wp2_with fail
      rw [HP0.out]
      exact ⟨by rw [HLC.out]; rfl, rfl⟩

end Go.Proofs.YtogmealngeejmaaGreatDoor
